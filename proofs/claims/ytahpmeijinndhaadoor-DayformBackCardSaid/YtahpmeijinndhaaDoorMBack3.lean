/-
  The texts of the claim Back, merged: Pxf31, LPInt, Pxf33, Pxf22, LItoa, Pxf21, Pxf23, GShow06, LPre, Pxf16, Pxf17, Pxf7, LDayText.
-/
import Derived.Test.YtahpmeijinndhaaDoorMBack2
import Derived.Test.YtahpmeijinndhaaDoorCards
import Derived.Test.YtahpmeijinndhaaDoorTie
import Derived.Test.YtahpmeijinndhaaDoorProg
import Derived.Below
import Derived.WalkSmall
import Derived.WalkKit
import Derived.Shelf.Vars
import Derived.KernelRfl
import Derived.Lib.AppendIntMem
import Derived.Lib.LaidTab
import Derived.LaidSub
import Derived.Lib.ItoaNum
import Derived.Deep.Draws
import Derived.Deep.AppendLies
import Derived.Maps.AppendAt
import Derived.OwnWalk
import Derived.Laws.BytesArg
import Derived.Laws.MakeOwn
import Derived.Laws.OwnMore
import Derived.Deep.OwnRows
import Derived.Tactics
import Derived.Lib.ConvBytes
import Derived.Laws.Slices
import Derived.RowKit3
import Derived.Deep.LoopGhost
import Derived.Deep.QuietTactic
import Derived.BigQuiet
import Derived.WideLaws
import Derived.Deep.DeepCutAuto
import Derived.Deep.CutBlock
import Derived.Deep.RegionHeld3
import Derived.Laws.Rows
import Derived.Lib.AppendStr
import Derived.ArgAppend
import Derived.Laws.IdiomCopy
import Derived.OrdersHeld
import Derived.Laws.BitsLemmas
import Derived.RowKit
import Derived.Test.YtahpmeijinndhaaDoorWWords
import Derived.Test.YtahpmeijinndhaaDoorWLast
import Derived.Test.YtahpmeijinndhaaDoorWTab
import Derived.Test.YtahpmeijinndhaaDoorWFour
import Derived.Test.YtahpmeijinndhaaDoorWQPut
import Derived.Test.YtahpmeijinndhaaDoorWApart
import Derived.Test.YtahpmeijinndhaaDoorWArr
import Derived.Test.YtahpmeijinndhaaDoorWZeros
import Derived.Test.YtahpmeijinndhaaDoorWFoot
import Derived.Test.YtahpmeijinndhaaDoorWKept
import Derived.Test.YtahpmeijinndhaaDoorWShare
import Derived.Test.YtahpmeijinndhaaDoorWN
import Derived.Test.YtahpmeijinndhaaDoorWFootNe
import Derived.Test.YtahpmeijinndhaaDoorWAt
import Derived.Test.YtahpmeijinndhaaDoorWEqStruct
import Derived.Test.YtahpmeijinndhaaDoorWRepsOne
import Derived.Test.YtahpmeijinndhaaDoorWInv
import Derived.Test.YtahpmeijinndhaaDoorWInvWords
import Derived.Test.YtahpmeijinndhaaDoorWGuard
import Derived.Test.YtahpmeijinndhaaDoorWNEv
import Derived.Test.YtahpmeijinndhaaDoorWMore
import Derived.Shelf.Strconv.Itoa0
import Derived.Shelf.Strconv.Itoa1
import Derived.Shelf.LaysM
import Derived.Shelf.Strconv.Itoa2
import Derived.Shelf.Strconv.Itoa3
import Derived.Shelf.Strings.Search1
import Derived.Shelf.Strings.Search2
import Derived.Shelf.Strings.Search3
import Derived.Shelf.Strings.Cut
import Derived.Shelf.Strings.Shaped
import Derived.Lib.QuietBelow
import Derived.LoopTactic
import Derived.Lib.Hide
import Derived.Lib.Strings
import Derived.Lib.IndexBytes
import Derived.IntWalk
import Derived.Deep.RegionWith
import Derived.Lib.IndexLaws
import Derived.Lib.IndexMore
import Derived.ProofKit
import Derived.OpenShut
import Derived.ShutString
import Derived.ChangeOld
import Derived.SizedLaws
import Derived.HandedShaped
import Derived.Lib.SmallJoins
import Derived.Carry
import Derived.Deep.DeepHandedRow
-- Written for this claim by a turned copy of the kit's print program (gprint_patch.py). Not trusted: Lean checks it.
namespace Go.Proofs.YtahpmeijinndhaaDoor.P
open Go.RowKit Go.Proofs.YtahpmeijinndhaaDoorW.PrintWords Go.Proofs.YtahpmeijinndhaaDoorW.PrintLast Go.Proofs.YtahpmeijinndhaaDoorW.PrintMore
attribute [local go_sem] max2_int min2_int max_two min_two max_three min_three max_four min_four   -- for this text's walks alone
set_option linter.unusedVariables false
set_option linter.unusedSimpArgs false

/-! ### noonmarkref02_ParseInt: function 31 -/
mutual
def noonmarkref02_ParseInt.j0 : Nat → ByteArray → Bool → Option (Int × Int)
  | 0, _, _ => none
  | k + 1, x4, x5 => if x5 = true then (if 1 ≤ (x4.size : Int) then (noonmarkref02_ParseInt.j1 k (x4.extract 1 x4.size) x5) else (none)) else (noonmarkref02_ParseInt.j1 k x4 x5)
def noonmarkref02_ParseInt.j1 : Nat → ByteArray → Bool → Option (Int × Int)
  | 0, _, _ => none
  | k + 1, x4, x5 => if (x4.size : Int) = 0 then (noonmarkref02_ParseInt.j2 k x4 x5 true) else (if 0 < (x4.size : Int) then (if (bt x4 0) = 48 then (if (x4.size : Int) > 1 then (noonmarkref02_ParseInt.j2 k x4 x5 true) else (noonmarkref02_ParseInt.j2 k x4 x5 x5)) else (noonmarkref02_ParseInt.j2 k x4 x5 false)) else (none))
def noonmarkref02_ParseInt.j2 : Nat → ByteArray → Bool → Bool → Option (Int × Int)
  | 0, _, _, _ => none
  | k + 1, x4, x5, x37 => if x37 = true then (some (0, 3)) else (noonmarkref02_ParseInt.l0 k x4 x5 0)
def noonmarkref02_ParseInt.l0 : Nat → ByteArray → Bool → Int → Option (Int × Int)
  | 0, _, _, _ => none
  | k + 1, x4, x5, x6 => if x6 < (x4.size : Int) then (if 0 ≤ x6 then (if (bt x4 x6) < 48 then (some (0, 3)) else (if (bt x4 x6) > 57 then (some (0, 3)) else (noonmarkref02_ParseInt.l0 k x4 x5 (wrap64 (x6 + 1))))) else (none)) else (if (x4.size : Int) > 19 then (some (0, 2)) else (noonmarkref02_ParseInt.l1 k x4 x5 0 0))
def noonmarkref02_ParseInt.l1 : Nat → ByteArray → Bool → Int → Int → Option (Int × Int)
  | 0, _, _, _, _ => none
  | k + 1, x4, x5, x7, x8 => if x8 < (x4.size : Int) then (if 0 ≤ x8 then (if x7 < (Int.tdiv ((-9223372036854775808) + (((bt x4 x8) - 48) % 256)) 10) then (some (0, 2)) else (noonmarkref02_ParseInt.l1 k x4 x5 (wrap64 ((wrap64 (x7 * 10)) - (((bt x4 x8) - 48) % 256))) (wrap64 (x8 + 1)))) else (none)) else (if x5 = true then (some (x7, 0)) else (if x7 < (-9223372036854775807) then (some (0, 2)) else (some (wrap64 (-x7), 0))))
end
def noonmarkref02_ParseInt.f (k : Nat) (a0 : ByteArray) : Option (Int × Int) := if (a0.size : Int) > 0 then (if 0 < (a0.size : Int) then (noonmarkref02_ParseInt.j0 k a0 ((bt a0 0) == 45)) else (none)) else (noonmarkref02_ParseInt.j0 k a0 false)
theorem noonmarkref02_ParseInt.mono_l : ∀ k, (∀ y0 y1, LeO (noonmarkref02_ParseInt.j0 k y0 y1) (noonmarkref02_ParseInt.j0 (k + 1) y0 y1)) ∧ (∀ y0 y1, LeO (noonmarkref02_ParseInt.j1 k y0 y1) (noonmarkref02_ParseInt.j1 (k + 1) y0 y1)) ∧ (∀ y0 y1 y2, LeO (noonmarkref02_ParseInt.j2 k y0 y1 y2) (noonmarkref02_ParseInt.j2 (k + 1) y0 y1 y2)) ∧ (∀ y0 y1 y2, LeO (noonmarkref02_ParseInt.l0 k y0 y1 y2) (noonmarkref02_ParseInt.l0 (k + 1) y0 y1 y2)) ∧ (∀ y0 y1 y2 y3, LeO (noonmarkref02_ParseInt.l1 k y0 y1 y2 y3) (noonmarkref02_ParseInt.l1 (k + 1) y0 y1 y2 y3))
  | 0 => ⟨fun _ _ r h => by simp [noonmarkref02_ParseInt.j0] at h, fun _ _ r h => by simp [noonmarkref02_ParseInt.j1] at h, fun _ _ _ r h => by simp [noonmarkref02_ParseInt.j2] at h, fun _ _ _ r h => by simp [noonmarkref02_ParseInt.l0] at h, fun _ _ _ _ r h => by simp [noonmarkref02_ParseInt.l1] at h⟩
  | k + 1 => by
    obtain ⟨ih0, ih1, ih2, ih3, ih4⟩ := noonmarkref02_ParseInt.mono_l k
    refine ⟨?_, ?_, ?_, ?_, ?_⟩
    · intro y0 y1
      unfold noonmarkref02_ParseInt.j0
      repeat' first
      | (with_reducible exact ih0 _ _)
      | (with_reducible exact ih1 _ _)
      | (with_reducible exact ih2 _ _ _)
      | (with_reducible exact ih3 _ _ _)
      | (with_reducible exact ih4 _ _ _ _)
      | (with_reducible exact LeO.refl _)
      | (with_reducible exact LeO.none _)
      | (with_reducible refine LeO.ite ?_ ?_)
      | (with_reducible refine LeO.bind ?_ (fun _ => ?_))
      | exact ih0 _ _
      | exact ih1 _ _
      | exact ih2 _ _ _
      | exact ih3 _ _ _
      | exact ih4 _ _ _ _
      | exact LeO.none _
      | refine LeO.ite ?_ ?_
      | refine LeO.bind ?_ (fun _ => ?_)
    · intro y0 y1
      unfold noonmarkref02_ParseInt.j1
      repeat' first
      | (with_reducible exact ih0 _ _)
      | (with_reducible exact ih1 _ _)
      | (with_reducible exact ih2 _ _ _)
      | (with_reducible exact ih3 _ _ _)
      | (with_reducible exact ih4 _ _ _ _)
      | (with_reducible exact LeO.refl _)
      | (with_reducible exact LeO.none _)
      | (with_reducible refine LeO.ite ?_ ?_)
      | (with_reducible refine LeO.bind ?_ (fun _ => ?_))
      | exact ih0 _ _
      | exact ih1 _ _
      | exact ih2 _ _ _
      | exact ih3 _ _ _
      | exact ih4 _ _ _ _
      | exact LeO.none _
      | refine LeO.ite ?_ ?_
      | refine LeO.bind ?_ (fun _ => ?_)
    · intro y0 y1 y2
      unfold noonmarkref02_ParseInt.j2
      repeat' first
      | (with_reducible exact ih0 _ _)
      | (with_reducible exact ih1 _ _)
      | (with_reducible exact ih2 _ _ _)
      | (with_reducible exact ih3 _ _ _)
      | (with_reducible exact ih4 _ _ _ _)
      | (with_reducible exact LeO.refl _)
      | (with_reducible exact LeO.none _)
      | (with_reducible refine LeO.ite ?_ ?_)
      | (with_reducible refine LeO.bind ?_ (fun _ => ?_))
      | exact ih0 _ _
      | exact ih1 _ _
      | exact ih2 _ _ _
      | exact ih3 _ _ _
      | exact ih4 _ _ _ _
      | exact LeO.none _
      | refine LeO.ite ?_ ?_
      | refine LeO.bind ?_ (fun _ => ?_)
    · intro y0 y1 y2
      unfold noonmarkref02_ParseInt.l0
      repeat' first
      | (with_reducible exact ih0 _ _)
      | (with_reducible exact ih1 _ _)
      | (with_reducible exact ih2 _ _ _)
      | (with_reducible exact ih3 _ _ _)
      | (with_reducible exact ih4 _ _ _ _)
      | (with_reducible exact LeO.refl _)
      | (with_reducible exact LeO.none _)
      | (with_reducible refine LeO.ite ?_ ?_)
      | (with_reducible refine LeO.bind ?_ (fun _ => ?_))
      | exact ih0 _ _
      | exact ih1 _ _
      | exact ih2 _ _ _
      | exact ih3 _ _ _
      | exact ih4 _ _ _ _
      | exact LeO.none _
      | refine LeO.ite ?_ ?_
      | refine LeO.bind ?_ (fun _ => ?_)
    · intro y0 y1 y2 y3
      unfold noonmarkref02_ParseInt.l1
      repeat' first
      | (with_reducible exact ih0 _ _)
      | (with_reducible exact ih1 _ _)
      | (with_reducible exact ih2 _ _ _)
      | (with_reducible exact ih3 _ _ _)
      | (with_reducible exact ih4 _ _ _ _)
      | (with_reducible exact LeO.refl _)
      | (with_reducible exact LeO.none _)
      | (with_reducible refine LeO.ite ?_ ?_)
      | (with_reducible refine LeO.bind ?_ (fun _ => ?_))
      | exact ih0 _ _
      | exact ih1 _ _
      | exact ih2 _ _ _
      | exact ih3 _ _ _
      | exact ih4 _ _ _ _
      | exact LeO.none _
      | refine LeO.ite ?_ ?_
      | refine LeO.bind ?_ (fun _ => ?_)
theorem noonmarkref02_ParseInt.mono : ∀ a0 k, LeO (noonmarkref02_ParseInt.f k a0) (noonmarkref02_ParseInt.f (k + 1) a0) := by
  intro a0 k
  obtain ⟨ih0, ih1, ih2, ih3, ih4⟩ := noonmarkref02_ParseInt.mono_l k
  unfold noonmarkref02_ParseInt.f
  repeat' first
      | (with_reducible exact ih0 _ _)
      | (with_reducible exact ih1 _ _)
      | (with_reducible exact ih2 _ _ _)
      | (with_reducible exact ih3 _ _ _)
      | (with_reducible exact ih4 _ _ _ _)
      | (with_reducible exact LeO.refl _)
      | (with_reducible exact LeO.none _)
      | (with_reducible refine LeO.ite ?_ ?_)
      | (with_reducible refine LeO.bind ?_ (fun _ => ?_))
      | exact ih0 _ _
      | exact ih1 _ _
      | exact ih2 _ _ _
      | exact ih3 _ _ _
      | exact ih4 _ _ _ _
      | exact LeO.none _
      | refine LeO.ite ?_ ?_
      | refine LeO.bind ?_ (fun _ => ?_)
set_option maxHeartbeats 8000000 in
set_option maxRecDepth 100000 in
theorem noonmarkref02_ParseInt.calls (k : Nat) (a0 : ByteArray) (r1 : Int) (r2 : Int) (w : World) (hG : GOK w) (h : noonmarkref02_ParseInt.f k a0 = some (r1, r2)) :
    Calls Tryd.prog 31 #[.string a0] w fun e w' => e = .returned (.tuple #[.int .i64 r1, .int .i64 r2]) ∧ Drawn0 w w' := by
  have H : (if (a0.size : Int) > 0 then (if 0 < (a0.size : Int) then (noonmarkref02_ParseInt.j0 k a0 ((bt a0 0) == 45)) else (none)) else (noonmarkref02_ParseInt.j0 k a0 false)) = some (r1, r2) := h
  clear h
  have HC2 := Aside0.mk H
  clear H
  go_enter Tryd.func31, Tryd.ntmps31
  go_upto_region 2 with (fail)
  go_cut [5] (fun v5 wc => ∃ (kq : Nat) (x5_1 : Bool), v5 = .bool x5_1 ∧ Aside0 (noonmarkref02_ParseInt.j0 kq a0 x5_1 = some (r1, r2)) ∧ Aside0 (kq ≤ k) ∧ Drawn0 w wc)
  case first =>
    have H := HC2.out
    clear HC2
    by_cases c3 : (a0.size : Int) > 0
    · rw [if_pos c3] at H
      have c3b0 : decide (0 < (a0.size : Int)) = true := decide_eq_true c3
      have c3b1 : decide (0 < a0.size) = true := decide_eq_true (by omega)
      clear c3
      (first | rw [c3b0] | (simp only [i64_w, i32_w]; rw [c3b0]) | skip)
      by_cases c4 : 0 < (a0.size : Int)
      · rw [if_pos c4] at H
        have c4b0 : decide (0 < (a0.size : Int)) = true := decide_eq_true c4
        have c4b1 : decide (0 < a0.size) = true := decide_eq_true (by omega)
        clear c4
        have H' := Aside0.mk H
        clear H
        have p5 : 0 ≤ (0 : Int) := (by omega)
        have q5 : 0 < a0.size := (by have : (0 : Int) < (a0.size : Int) := of_decide_eq_true (by first | (with_reducible assumption) | assumption); omega)
        have hx5 : ∀ h : 0 < a0.size, ((a0[0]'h).toNat : Int) = bt a0 0 := bt_at a0 0
        clear p5
        have qi5 : (0 < (a0.size : Int)) = True := eq_true (of_decide_eq_true (by first | (with_reducible assumption) | assumption))
        replace q5 := eq_true q5
        go_wp2
        go_meet
        case rel => exact ⟨_, (((bt a0 0) == 45)), (by first | rfl | (simp; done) | (simp [*]; done)), H', ⟨by first | omega | exact Nat.le_refl _⟩, by repeat (first | exact Drawn0.refl _ | apply Drawn0.step)⟩
      · rw [if_neg c4] at H
        exact absurd H (by simp)
    · rw [if_neg c3] at H
      have c3b0 : decide (0 < (a0.size : Int)) = false := decide_eq_false c3
      have c3b1 : decide (0 < a0.size) = false := decide_eq_false (by omega)
      clear c3
      (first | rw [c3b0] | (simp only [i64_w, i32_w]; rw [c3b0]) | skip)
      have H' := Aside0.mk H
      clear H
      go_wp2
      go_meet
      case rel => exact ⟨_, (false), (by first | rfl | (simp; done) | (simp [*]; done)), H', ⟨by first | omega | exact Nat.le_refl _⟩, by repeat (first | exact Drawn0.refl _ | apply Drawn0.step)⟩
  case rest =>
    clear HC2
    try clear p2
    try clear c3
    try clear c3b0
    try clear c3b1
    try clear c4
    try clear c4b0
    try clear c4b1
    try clear p5
    try clear q5
    try clear hx5
    try clear qi5
    try clear p5
    try clear q5
    obtain ⟨kq, x5_1, rfl, HA, HJ1, ⟨mc1, rfl⟩⟩ := hcut
    cases kq with
    | zero => exact absurd HA.out (by simp [noonmarkref02_ParseInt.j0])
    | succ kj1 =>
      have H := HA.out
      clear HA
      simp only [noonmarkref02_ParseInt.j0] at H
      have HC6 := Aside0.mk H
      clear H
      go_upto_if 19 with (fail)
      go_cut [4] (fun v4 wc => ∃ (kq : Nat) (x4_5 : ByteArray), v4 = .string x4_5 ∧ Aside0 (noonmarkref02_ParseInt.j1 kq x4_5 x5_1 = some (r1, r2)) ∧ Aside0 (kq ≤ kj1) ∧ Drawn0 w wc)
      case first =>
        have H := HC6.out
        clear HC6
        by_cases c7 : x5_1 = true
        · subst c7
          have H1 : (if 1 ≤ (a0.size : Int) then (noonmarkref02_ParseInt.j1 kj1 (a0.extract 1 a0.size) true) else (none)) = some (r1, r2) := by rw [if_pos rfl] at H; exact H
          clear H
          have H := H1
          clear H1
          by_cases c8 : 1 ≤ (a0.size : Int)
          · rw [if_pos c8] at H
            have c8b0 := eq_true c8
            have c8b1 : decide (1 ≤ (a0.size : Int)) = true := decide_eq_true c8
            clear c8
            have H' := Aside0.mk H
            clear H
            go_wp2
            go_meet
            case rel => exact ⟨_, (a0.extract 1 a0.size), (by first | rfl | (simp; done) | (simp [*]; done)), H', ⟨by have := HJ1.out; first | omega | exact Nat.le_refl _⟩, by repeat (first | exact Drawn0.refl _ | apply Drawn0.step)⟩
          · rw [if_neg c8] at H
            exact absurd H (by simp)
        · replace c7 := Bool.eq_false_iff.mpr c7
          subst c7
          have H1 : (noonmarkref02_ParseInt.j1 kj1 a0 false) = some (r1, r2) := by rw [if_neg (show ¬ (false = true) by decide)] at H; exact H
          clear H
          have H := H1
          clear H1
          have H' := Aside0.mk H
          clear H
          go_wp2
          go_meet
          case rel => exact ⟨_, (a0), (by first | rfl | (simp; done) | (simp [*]; done)), H', ⟨by have := HJ1.out; first | omega | exact Nat.le_refl _⟩, by repeat (first | exact Drawn0.refl _ | apply Drawn0.step)⟩
      case rest =>
        clear HC6
        try clear c1
        try clear p2
        try clear c3
        try clear c3b0
        try clear c3b1
        try clear c4
        try clear c4b0
        try clear c4b1
        try clear p5
        try clear q5
        try clear hx5
        try clear qi5
        try clear c7
        try clear c8
        try clear c8b0
        try clear c8b1
        try clear p2
        try clear p5
        try clear q5
        obtain ⟨kq, x4_5, rfl, HA, HJ5, ⟨mc5, rfl⟩⟩ := hcut
        cases kq with
        | zero => exact absurd HA.out (by simp [noonmarkref02_ParseInt.j1])
        | succ kj5 =>
          have H := HA.out
          clear HA
          simp only [noonmarkref02_ParseInt.j1] at H
          have HC9 := Aside0.mk H
          clear H
          go_upto_region 5 with (fail)
          go_cut [37] (fun v37 wc => ∃ (kq : Nat) (x37_8 : Bool), v37 = .bool x37_8 ∧ Aside0 (noonmarkref02_ParseInt.j2 kq x4_5 x5_1 x37_8 = some (r1, r2)) ∧ Aside0 (kq ≤ kj5) ∧ Drawn0 w wc)
          case first =>
            have H := HC9.out
            clear HC9
            by_cases c10 : (x4_5.size : Int) = 0
            · rw [if_pos c10] at H
              have c10b0 : ((x4_5.size : Int) == 0) = true := beq_iff_eq.mpr c10
              have c10b1 : ((x4_5.size : Int) != 0) = false := bne_eq_false_iff_eq.mpr c10
              clear c10
              (first | rw [c10b0] | (simp only [i64_w, i32_w]; rw [c10b0]) | skip)
              have H' := Aside0.mk H
              clear H
              go_wp2
              go_meet
              case rel => exact ⟨_, (true), (by first | rfl | (simp; done) | (simp [*]; done)), H', ⟨by have := HJ1.out; have := HJ5.out; first | omega | exact Nat.le_refl _⟩, by repeat (first | exact Drawn0.refl _ | apply Drawn0.step)⟩
            · rw [if_neg c10] at H
              have c10b0 : ((x4_5.size : Int) == 0) = false := beq_eq_false_iff_ne.mpr c10
              have c10b1 : ((x4_5.size : Int) != 0) = true := bne_iff_ne.mpr c10
              (first | rw [c10b0] | (simp only [i64_w, i32_w]; rw [c10b0]) | skip)
              by_cases c11 : 0 < (x4_5.size : Int)
              · rw [if_pos c11] at H
                have c11b0 : decide (0 < (x4_5.size : Int)) = true := decide_eq_true c11
                have c11b1 : decide (0 < x4_5.size) = true := decide_eq_true (by omega)
                clear c11
                by_cases c13 : (bt x4_5 0) = 48
                · rw [if_pos c13] at H
                  have c13b0 : ((bt x4_5 0) == 48) = true := beq_iff_eq.mpr c13
                  have c13b1 : ((bt x4_5 0) != 48) = false := bne_eq_false_iff_eq.mpr c13
                  clear c13
                  by_cases c14 : (x4_5.size : Int) > 1
                  · rw [if_pos c14] at H
                    have c14b0 : decide (1 < (x4_5.size : Int)) = true := decide_eq_true c14
                    have c14b1 : decide (1 < x4_5.size) = true := decide_eq_true (by omega)
                    clear c14
                    have H' := Aside0.mk H
                    clear H
                    have p12 : 0 ≤ (0 : Int) := (by omega)
                    have q12 : 0 < x4_5.size := (by have : (0 : Int) < (x4_5.size : Int) := of_decide_eq_true (by first | (with_reducible assumption) | assumption); omega)
                    have hx12 : ∀ h : 0 < x4_5.size, ((x4_5[0]'h).toNat : Int) = bt x4_5 0 := bt_at x4_5 0
                    clear p12
                    have qi12 : (0 < (x4_5.size : Int)) = True := eq_true (of_decide_eq_true (by first | (with_reducible assumption) | assumption))
                    replace q12 := eq_true q12
                    go_wp2
                    go_meet
                    case rel => exact ⟨_, (true), (by first | rfl | (simp; done) | (simp [*]; done)), H', ⟨by have := HJ1.out; have := HJ5.out; first | omega | exact Nat.le_refl _⟩, by repeat (first | exact Drawn0.refl _ | apply Drawn0.step)⟩
                  · rw [if_neg c14] at H
                    have c14b0 : decide (1 < (x4_5.size : Int)) = false := decide_eq_false c14
                    have c14b1 : decide (1 < x4_5.size) = false := decide_eq_false (by omega)
                    clear c14
                    have H' := Aside0.mk H
                    clear H
                    have p12 : 0 ≤ (0 : Int) := (by omega)
                    have q12 : 0 < x4_5.size := (by have : (0 : Int) < (x4_5.size : Int) := of_decide_eq_true (by first | (with_reducible assumption) | assumption); omega)
                    have hx12 : ∀ h : 0 < x4_5.size, ((x4_5[0]'h).toNat : Int) = bt x4_5 0 := bt_at x4_5 0
                    clear p12
                    have qi12 : (0 < (x4_5.size : Int)) = True := eq_true (of_decide_eq_true (by first | (with_reducible assumption) | assumption))
                    replace q12 := eq_true q12
                    go_wp2
                    go_meet
                    case rel => exact ⟨_, (x5_1), (by first | rfl | (simp; done) | (simp [*]; done)), H', ⟨by have := HJ1.out; have := HJ5.out; first | omega | exact Nat.le_refl _⟩, by repeat (first | exact Drawn0.refl _ | apply Drawn0.step)⟩
                · rw [if_neg c13] at H
                  have c13b0 : ((bt x4_5 0) == 48) = false := beq_eq_false_iff_ne.mpr c13
                  have c13b1 : ((bt x4_5 0) != 48) = true := bne_iff_ne.mpr c13
                  have H' := Aside0.mk H
                  clear H
                  have p12 : 0 ≤ (0 : Int) := (by omega)
                  have q12 : 0 < x4_5.size := (by have : (0 : Int) < (x4_5.size : Int) := of_decide_eq_true (by first | (with_reducible assumption) | assumption); omega)
                  have hx12 : ∀ h : 0 < x4_5.size, ((x4_5[0]'h).toNat : Int) = bt x4_5 0 := bt_at x4_5 0
                  clear p12
                  have qi12 : (0 < (x4_5.size : Int)) = True := eq_true (of_decide_eq_true (by first | (with_reducible assumption) | assumption))
                  replace q12 := eq_true q12
                  go_wp2
                  go_meet
                  case rel => exact ⟨_, (false), (by first | rfl | (simp; done) | (simp [*]; done)), H', ⟨by have := HJ1.out; have := HJ5.out; first | omega | exact Nat.le_refl _⟩, by repeat (first | exact Drawn0.refl _ | apply Drawn0.step)⟩
              · rw [if_neg c11] at H
                exact absurd H (by simp)
          case rest =>
            clear HC9
            try clear c1
            try clear p1
            try clear q1
            try clear hx1
            try clear qi1
            try clear p2
            try clear c3
            try clear c3b0
            try clear c3b1
            try clear c4
            try clear c4b0
            try clear c4b1
            try clear c5
            try clear p5
            try clear q5
            try clear hx5
            try clear qi5
            try clear c7
            try clear c8
            try clear c8b0
            try clear c8b1
            try clear c10
            try clear c10b0
            try clear c10b1
            try clear c11
            try clear c11b0
            try clear c11b1
            try clear p12
            try clear q12
            try clear hx12
            try clear qi12
            try clear c13
            try clear c13b0
            try clear c13b1
            try clear c14
            try clear c14b0
            try clear c14b1
            try clear p12
            try clear p2
            try clear p5
            try clear q12
            try clear q5
            obtain ⟨kq, x37_8, rfl, HA, HJ8, ⟨mc8, rfl⟩⟩ := hcut
            cases kq with
            | zero => exact absurd HA.out (by simp [noonmarkref02_ParseInt.j2])
            | succ kj8 =>
              have H := HA.out
              clear HA
              simp only [noonmarkref02_ParseInt.j2] at H
              by_cases c15 : x37_8 = true
              · subst c15
                have H1 : (some (0, 3)) = some (r1, r2) := by rw [if_pos rfl] at H; exact H
                clear H
                have H := H1
                clear H1
                simp only [Option.some.injEq, Prod.mk.injEq] at H
                obtain ⟨rfl, rfl⟩ := H
                go_wp2
                go_ret2
                exact ⟨by first | rfl | (simp; done) | (simp [*]; done), by repeat (first | exact Drawn0.refl _ | apply Drawn0.step)⟩
              · replace c15 := Bool.eq_false_iff.mpr c15
                subst c15
                have H1 : (noonmarkref02_ParseInt.l0 kj8 x4_5 x5_1 0) = some (r1, r2) := by rw [if_neg (show ¬ (false = true) by decide)] at H; exact H
                clear H
                have H := H1
                clear H1
                have H' := Aside0.mk H
                clear H
                go_wp2
                go_loopg [6] kj8 (fun kq v6 w' => ∃ (x6_4 : Int), v6 = .int .i64 x6_4 ∧ Aside0 (noonmarkref02_ParseInt.l0 kq x4_5 x5_1 x6_4 = some (r1, r2)) ∧ Aside0 (kq ≤ kj8) ∧ Drawn0 w w')
                case atStart => exact ⟨(0), (by first | rfl | (simp; done) | (simp [*]; done)), H', ⟨Nat.le_refl _⟩, by repeat (first | exact Drawn0.refl _ | apply Drawn0.step)⟩
                case round =>
                  clear H'
                  try clear c1
                  try clear p1
                  try clear q1
                  try clear hx1
                  try clear qi1
                  try clear p2
                  try clear c3
                  try clear c3b0
                  try clear c3b1
                  try clear c4
                  try clear c4b0
                  try clear c4b1
                  try clear c5
                  try clear p5
                  try clear q5
                  try clear hx5
                  try clear qi5
                  try clear c7
                  try clear c8
                  try clear c8b0
                  try clear c8b1
                  try clear c10
                  try clear c10b0
                  try clear c10b1
                  try clear c11
                  try clear c11b0
                  try clear c11b1
                  try clear p12
                  try clear q12
                  try clear hx12
                  try clear qi12
                  try clear c13
                  try clear c13b0
                  try clear c13b1
                  try clear c14
                  try clear c14b0
                  try clear c14b1
                  try clear c15
                  try clear p1
                  try clear p12
                  try clear p2
                  try clear p5
                  try clear q1
                  try clear q12
                  try clear q5
                  obtain ⟨x6_4, rfl, HA, HK4, ⟨m4, rfl⟩⟩ := hrel
                  cases gk with
                  | zero => exact absurd HA.out (by simp [noonmarkref02_ParseInt.l0])
                  | succ k4 =>
                    have H := HA.out
                    clear HA
                    simp only [noonmarkref02_ParseInt.l0] at H
                    by_cases c16 : x6_4 < (x4_5.size : Int)
                    · rw [if_pos c16] at H
                      have c16b0 : decide (x6_4 < (x4_5.size : Int)) = true := decide_eq_true c16
                      clear c16
                      by_cases c17 : 0 ≤ x6_4
                      · rw [if_pos c17] at H
                        have c17b0 : decide (0 ≤ x6_4) = true := decide_eq_true c17
                        clear c17
                        by_cases c19 : (bt x4_5 x6_4) < 48
                        · rw [if_pos c19] at H
                          have c19b0 : decide ((bt x4_5 x6_4) < 48) = true := decide_eq_true c19
                          clear c19
                          simp only [Option.some.injEq, Prod.mk.injEq] at H
                          obtain ⟨rfl, rfl⟩ := H
                          have p18 : 0 ≤ (x6_4 : Int) := of_decide_eq_true (by first | (with_reducible assumption) | assumption)
                          have q18 : x6_4 < (x4_5.size : Int) := of_decide_eq_true (by first | (with_reducible assumption) | assumption)
                          have hx18 := bt_at x4_5 x6_4
                          replace p18 := eq_true p18
                          replace q18 := eq_true q18
                          go_wp2
                          go_ret2
                          exact ⟨by first | rfl | (simp; done) | (simp [*]; done), by repeat (first | exact Drawn0.refl _ | apply Drawn0.step)⟩
                        · rw [if_neg c19] at H
                          have c19b0 : decide ((bt x4_5 x6_4) < 48) = false := decide_eq_false c19
                          clear c19
                          by_cases c21 : (bt x4_5 x6_4) > 57
                          · rw [if_pos c21] at H
                            have c21b0 : decide (57 < (bt x4_5 x6_4)) = true := decide_eq_true c21
                            clear c21
                            simp only [Option.some.injEq, Prod.mk.injEq] at H
                            obtain ⟨rfl, rfl⟩ := H
                            have p18 : 0 ≤ (x6_4 : Int) := of_decide_eq_true (by first | (with_reducible assumption) | assumption)
                            have q18 : x6_4 < (x4_5.size : Int) := of_decide_eq_true (by first | (with_reducible assumption) | assumption)
                            have hx18 := bt_at x4_5 x6_4
                            replace p18 := eq_true p18
                            replace q18 := eq_true q18
                            have p20 : 0 ≤ (x6_4 : Int) := of_decide_eq_true (by first | (with_reducible assumption) | assumption)
                            have q20 : x6_4 < (x4_5.size : Int) := of_decide_eq_true (by first | (with_reducible assumption) | assumption)
                            have hx20 := bt_at x4_5 x6_4
                            replace p20 := eq_true p20
                            replace q20 := eq_true q20
                            go_wp2
                            go_ret2
                            exact ⟨by first | rfl | (simp; done) | (simp [*]; done), by repeat (first | exact Drawn0.refl _ | apply Drawn0.step)⟩
                          · rw [if_neg c21] at H
                            have c21b0 : decide (57 < (bt x4_5 x6_4)) = false := decide_eq_false c21
                            clear c21
                            have H' := Aside0.mk H
                            clear H
                            have p18 : 0 ≤ (x6_4 : Int) := of_decide_eq_true (by first | (with_reducible assumption) | assumption)
                            have q18 : x6_4 < (x4_5.size : Int) := of_decide_eq_true (by first | (with_reducible assumption) | assumption)
                            have hx18 := bt_at x4_5 x6_4
                            replace p18 := eq_true p18
                            replace q18 := eq_true q18
                            have p20 : 0 ≤ (x6_4 : Int) := of_decide_eq_true (by first | (with_reducible assumption) | assumption)
                            have q20 : x6_4 < (x4_5.size : Int) := of_decide_eq_true (by first | (with_reducible assumption) | assumption)
                            have hx20 := bt_at x4_5 x6_4
                            replace p20 := eq_true p20
                            replace q20 := eq_true q20
                            go_wp2
                            go_roundg k4
                            case measure => have := HJ1.out; have := HJ5.out; have := HJ8.out; have := HK4.out; omega
                            case rel => exact ⟨(wrap64 (x6_4 + 1)), (by first | rfl | (simp; done) | (simp [*]; done)), H', ⟨by have := HJ1.out; have := HJ5.out; have := HJ8.out; have := HK4.out; omega⟩, by repeat (first | exact Drawn0.refl _ | apply Drawn0.step)⟩
                      · rw [if_neg c17] at H
                        exact absurd H (by simp)
                    · rw [if_neg c16] at H
                      have c16b0 : decide (x6_4 < (x4_5.size : Int)) = false := decide_eq_false c16
                      clear c16
                      by_cases c22 : (x4_5.size : Int) > 19
                      · rw [if_pos c22] at H
                        have c22b0 : decide (19 < (x4_5.size : Int)) = true := decide_eq_true c22
                        have c22b1 : decide (19 < x4_5.size) = true := decide_eq_true (by omega)
                        clear c22
                        simp only [Option.some.injEq, Prod.mk.injEq] at H
                        obtain ⟨rfl, rfl⟩ := H
                        go_wp2
                        go_ret2
                        exact ⟨by first | rfl | (simp; done) | (simp [*]; done), by repeat (first | exact Drawn0.refl _ | apply Drawn0.step)⟩
                      · rw [if_neg c22] at H
                        have c22b0 : decide (19 < (x4_5.size : Int)) = false := decide_eq_false c22
                        have c22b1 : decide (19 < x4_5.size) = false := decide_eq_false (by omega)
                        clear c22
                        have H' := Aside0.mk H
                        clear H
                        go_wp2
                        go_loopg [7, 8] k4 (fun kq v7 v8 w' => ∃ (x7_5 : Int) (x8_5 : Int), v7 = .int .i64 x7_5 ∧ v8 = .int .i64 x8_5 ∧ Aside0 (noonmarkref02_ParseInt.l1 kq x4_5 x5_1 x7_5 x8_5 = some (r1, r2)) ∧ Aside0 (kq ≤ k4) ∧ Drawn0 w w')
                        case atStart => exact ⟨(0), (0), (by first | rfl | (simp; done) | (simp [*]; done)), (by first | rfl | (simp; done) | (simp [*]; done)), H', ⟨Nat.le_refl _⟩, by repeat (first | exact Drawn0.refl _ | apply Drawn0.step)⟩
                        case round =>
                          clear H'
                          try clear c1
                          try clear p1
                          try clear q1
                          try clear hx1
                          try clear qi1
                          try clear c2
                          try clear p2
                          try clear q2
                          try clear hx2
                          try clear c3
                          try clear c3b0
                          try clear c3b1
                          try clear c4
                          try clear c4b0
                          try clear c4b1
                          try clear c5
                          try clear p5
                          try clear q5
                          try clear hx5
                          try clear qi5
                          try clear p6
                          try clear c7
                          try clear c8
                          try clear c8b0
                          try clear c8b1
                          try clear c10
                          try clear c10b0
                          try clear c10b1
                          try clear c11
                          try clear c11b0
                          try clear c11b1
                          try clear p12
                          try clear q12
                          try clear hx12
                          try clear qi12
                          try clear c13
                          try clear c13b0
                          try clear c13b1
                          try clear c14
                          try clear c14b0
                          try clear c14b1
                          try clear c15
                          try clear c16
                          try clear c16b0
                          try clear c17
                          try clear c17b0
                          try clear p18
                          try clear q18
                          try clear hx18
                          try clear c19
                          try clear c19b0
                          try clear p20
                          try clear q20
                          try clear hx20
                          try clear c21
                          try clear c21b0
                          try clear c22
                          try clear c22b0
                          try clear c22b1
                          try clear p1
                          try clear p12
                          try clear p18
                          try clear p2
                          try clear p20
                          try clear p5
                          try clear q1
                          try clear q12
                          try clear q18
                          try clear q20
                          try clear q5
                          obtain ⟨x7_5, x8_5, rfl, rfl, HA, HK5, ⟨m5, rfl⟩⟩ := hrel
                          cases gk with
                          | zero => exact absurd HA.out (by simp [noonmarkref02_ParseInt.l1])
                          | succ k5 =>
                            have H := HA.out
                            clear HA
                            simp only [noonmarkref02_ParseInt.l1] at H
                            by_cases c23 : x8_5 < (x4_5.size : Int)
                            · rw [if_pos c23] at H
                              have c23b0 : decide (x8_5 < (x4_5.size : Int)) = true := decide_eq_true c23
                              clear c23
                              by_cases c24 : 0 ≤ x8_5
                              · rw [if_pos c24] at H
                                have c24b0 : decide (0 ≤ x8_5) = true := decide_eq_true c24
                                clear c24
                                by_cases c26 : x7_5 < (Int.tdiv ((-9223372036854775808) + (((bt x4_5 x8_5) - 48) % 256)) 10)
                                · rw [if_pos c26] at H
                                  have c26b0 : decide (x7_5 < (Int.tdiv ((-9223372036854775808) + (((bt x4_5 x8_5) - 48) % 256)) 10)) = true := decide_eq_true c26
                                  clear c26
                                  simp only [Option.some.injEq, Prod.mk.injEq] at H
                                  obtain ⟨rfl, rfl⟩ := H
                                  have p25 : 0 ≤ (x8_5 : Int) := of_decide_eq_true (by first | (with_reducible assumption) | assumption)
                                  have q25 : x8_5 < (x4_5.size : Int) := of_decide_eq_true (by first | (with_reducible assumption) | assumption)
                                  have hx25 := bt_at x4_5 x8_5
                                  replace p25 := eq_true p25
                                  replace q25 := eq_true q25
                                  go_wp2
                                  go_ret2
                                  exact ⟨by first | rfl | (simp; done) | (simp [*]; done), by repeat (first | exact Drawn0.refl _ | apply Drawn0.step)⟩
                                · rw [if_neg c26] at H
                                  have c26b0 : decide (x7_5 < (Int.tdiv ((-9223372036854775808) + (((bt x4_5 x8_5) - 48) % 256)) 10)) = false := decide_eq_false c26
                                  clear c26
                                  have H' := Aside0.mk H
                                  clear H
                                  have p25 : 0 ≤ (x8_5 : Int) := of_decide_eq_true (by first | (with_reducible assumption) | assumption)
                                  have q25 : x8_5 < (x4_5.size : Int) := of_decide_eq_true (by first | (with_reducible assumption) | assumption)
                                  have hx25 := bt_at x4_5 x8_5
                                  replace p25 := eq_true p25
                                  replace q25 := eq_true q25
                                  go_wp2
                                  go_roundg k5
                                  case measure => have := HJ1.out; have := HJ5.out; have := HJ8.out; have := HK4.out; have := HK5.out; omega
                                  case rel => exact ⟨(wrap64 ((wrap64 (x7_5 * 10)) - (((bt x4_5 x8_5) - 48) % 256))), (wrap64 (x8_5 + 1)), (by first | rfl | (simp; done) | (simp [*]; done)), (by first | rfl | (simp; done) | (simp [*]; done)), H', ⟨by have := HJ1.out; have := HJ5.out; have := HJ8.out; have := HK4.out; have := HK5.out; omega⟩, by repeat (first | exact Drawn0.refl _ | apply Drawn0.step)⟩
                              · rw [if_neg c24] at H
                                exact absurd H (by simp)
                            · rw [if_neg c23] at H
                              have c23b0 : decide (x8_5 < (x4_5.size : Int)) = false := decide_eq_false c23
                              clear c23
                              by_cases c27 : x5_1 = true
                              · subst c27
                                have H1 : (some (x7_5, 0)) = some (r1, r2) := by rw [if_pos rfl] at H; exact H
                                clear H
                                have H := H1
                                clear H1
                                simp only [Option.some.injEq, Prod.mk.injEq] at H
                                obtain ⟨rfl, rfl⟩ := H
                                go_wp2
                                go_ret2
                                exact ⟨by first | rfl | (simp; done) | (simp [*]; done), by repeat (first | exact Drawn0.refl _ | apply Drawn0.step)⟩
                              · replace c27 := Bool.eq_false_iff.mpr c27
                                subst c27
                                have H1 : (if x7_5 < (-9223372036854775807) then (some (0, 2)) else (some (wrap64 (-x7_5), 0))) = some (r1, r2) := by rw [if_neg (show ¬ (false = true) by decide)] at H; exact H
                                clear H
                                have H := H1
                                clear H1
                                by_cases c28 : x7_5 < (-9223372036854775807)
                                · rw [if_pos c28] at H
                                  have c28b0 : decide (x7_5 < (-9223372036854775807)) = true := decide_eq_true c28
                                  clear c28
                                  simp only [Option.some.injEq, Prod.mk.injEq] at H
                                  obtain ⟨rfl, rfl⟩ := H
                                  go_wp2
                                  go_ret2
                                  exact ⟨by first | rfl | (simp; done) | (simp [*]; done), by repeat (first | exact Drawn0.refl _ | apply Drawn0.step)⟩
                                · rw [if_neg c28] at H
                                  have c28b0 : decide (x7_5 < (-9223372036854775807)) = false := decide_eq_false c28
                                  clear c28
                                  simp only [Option.some.injEq, Prod.mk.injEq] at H
                                  obtain ⟨rfl, rfl⟩ := H
                                  go_wp2
                                  go_ret2
                                  exact ⟨by first | rfl | (simp; done) | (simp [*]; done), by repeat (first | exact Drawn0.refl _ | apply Drawn0.step)⟩

end Go.Proofs.YtahpmeijinndhaaDoor.P

/-
  Plain laws of the document's numbers (noonmarkref02): what ParseInt and Int come to.
-/
namespace Go.Proofs.YtahpmeijinndhaaDoor.P
open Go.RowKit Go.Proofs.YtahpmeijinndhaaDoorW.PrintWords
set_option linter.unusedVariables false

def isDig (c : UInt8) : Bool := decide (48 ≤ c.toNat ∧ c.toNat ≤ 57)
/-- The number that digits say, behind n. -/
def dval : List UInt8 → Nat → Nat
  | [], n => n
  | c :: r, n => dval r (n * 10 + (c.toNat - 48))
theorem dval_ge (l : List UInt8) : ∀ n, n ≤ dval l n := by
  induction l with
  | nil => intro n; exact Nat.le_refl _
  | cons c r ih => intro n; exact Nat.le_trans (by omega) (ih _)
theorem dval_append (a b : List UInt8) : ∀ n, dval (a ++ b) n = dval b (dval a n) := by
  induction a with
  | nil => intro n; rfl
  | cons c r ih => intro n; exact ih _

/-- What a text of digits says, with a sign or without. -/
def pint2 (t : List UInt8) (low : Bool) : Int × Int :=
  if t = [] ∨ (t.headD 0 = 48 ∧ (1 < t.length ∨ low = true)) then (0, 3)
  else if t.all isDig = false then (0, 3)
  else if 19 < t.length then (0, 2)
  else if 9223372036854775808 < dval t 0 then (0, 2)
  else if low = true then (-(dval t 0 : Int), 0)
  else if 9223372036854775807 < dval t 0 then (0, 2)
  else ((dval t 0 : Int), 0)
def pintP (s : List UInt8) : Int × Int :=
  if s.headD 0 = 45 then pint2 (s.drop 1) true else pint2 s false

theorem isDig_int (c : UInt8) : isDig c = true ↔ ¬ (c.toNat : Int) < 48 ∧ ¬ (c.toNat : Int) > 57 := by
  unfold isDig
  simp
  omega

def pfin (low : Bool) (N : Nat) : Int × Int :=
  if 9223372036854775808 < N then (0, 2) else if low = true then (-(N : Int), 0) else if 9223372036854775807 < N then (0, 2) else ((N : Int), 0)

theorem pint_l1 (s : ByteArray) (low : Bool) (hs : s.size ≤ 19) (hd : (lst s).all isDig = true) (N d : Nat) : ∀ (k i : Nat) (n : Nat), i + d = s.size → d < k → n ≤ 9223372036854775808 → dval ((lst s).drop i) n = N →
    noonmarkref02_ParseInt.l1 k s low (-(n : Int)) (i : Int) = some (pfin low N) := by
  induction d with
  | zero =>
    intro k i n hi hk hn hN
    obtain ⟨k, rfl⟩ : ∃ m, k = m + 1 := ⟨k - 1, by omega⟩
    rw [List.drop_of_length_le (by rw [lst_len]; omega)] at hN
    have hN' : n = N := hN
    subst hN'
    simp only [noonmarkref02_ParseInt.l1]
    unfold pfin
    have hnb : ¬ 9223372036854775808 < n := by omega
    rw [if_neg (by omega), if_neg hnb]
    by_cases hl : low = true
    · rw [if_pos hl, if_pos hl]
    · rw [if_neg hl, if_neg hl]
      by_cases h7 : 9223372036854775807 < n
      · have h8 : (-(n : Int)) < -9223372036854775807 := by omega
        rw [if_pos h8, if_pos h7]
      · have h8 : ¬ (-(n : Int)) < -9223372036854775807 := by omega
        rw [if_neg h8, if_neg h7, IntWalk.wrap64_in _ (by omega)]
        simp
  | succ d ih =>
    intro k i n hi hk hn hN
    obtain ⟨k, rfl⟩ : ∃ m, k = m + 1 := ⟨k - 1, by omega⟩
    have hlt : i < (lst s).length := by rw [lst_len]; omega
    rw [List.drop_eq_getElem_cons hlt] at hN
    have hc : isDig (lst s)[i] = true := List.all_eq_true.1 hd _ (List.getElem_mem hlt)
    have hb : bt s (i : Int) = ((lst s)[i].toNat : Int) := by rw [bt_nat, List.getD_eq_getElem?_getD, List.getElem?_eq_getElem hlt]; rfl
    simp only [noonmarkref02_ParseInt.l1]
    rw [if_pos (by omega), if_pos (by omega), hb]
    generalize (lst s)[i] = c at *
    have hc1 : 48 ≤ c.toNat ∧ c.toNat ≤ 57 := of_decide_eq_true hc
    have hN2 : dval ((lst s).drop (i + 1)) (n * 10 + (c.toNat - 48)) = N := hN
    obtain ⟨e, hcd⟩ : ∃ e : Nat, c.toNat - 48 = e := ⟨_, rfl⟩
    rw [hcd] at hN2
    have e1 : ((c.toNat : Int) - 48) % 256 = (e : Int) := by omega
    rw [e1]
    have he : e ≤ 9 := by omega
    rw [tdiv_np (by omega)]
    by_cases hq : 9223372036854775808 < n * 10 + e
    · rw [if_pos (by omega)]
      unfold pfin
      rw [if_pos (by rw [← hN2]; exact Nat.lt_of_lt_of_le hq (dval_ge _ _))]
    · rw [if_neg (by omega)]
      rw [IntWalk.wrap64_in (-(n : Int) * 10) (by omega), IntWalk.wrap64_in _ (by omega), IntWalk.wrap64_in _ (by omega)]
      rw [show (-(n : Int) * 10 - (e : Nat)) = -((n * 10 + e : Nat) : Int) by omega, show ((i : Int) + 1) = ((i + 1 : Nat) : Int) by omega]
      exact ih k (i + 1) (n * 10 + e) (by omega) (by omega) (by omega) hN2

theorem pint_l0 (s : ByteArray) (low : Bool) (hb : s.size ≤ 9223372036854775000) (d : Nat) : ∀ (k i : Nat), i + d = s.size → d + 25 < k → ((lst s).take i).all isDig = true →
    noonmarkref02_ParseInt.l0 k s low (i : Int) = some (if (lst s).all isDig = false then (0, 3) else if 19 < s.size then (0, 2) else pfin low (dval (lst s) 0)) := by
  induction d with
  | zero =>
    intro k i hi hk ha
    obtain ⟨k, rfl⟩ : ∃ m, k = m + 1 := ⟨k - 1, by omega⟩
    rw [List.take_of_length_le (by rw [lst_len]; omega)] at ha
    simp only [noonmarkref02_ParseInt.l0]
    rw [if_neg (by omega), if_neg (show ¬ (lst s).all isDig = false by rw [ha]; decide)]
    by_cases h19 : 19 < s.size
    · rw [if_pos (by omega), if_pos h19]
    · rw [if_neg (by omega), if_neg h19]
      exact pint_l1 s low (by omega) ha _ s.size k 0 0 (by omega) (by omega) (by omega) rfl
  | succ d ih =>
    intro k i hi hk ha
    obtain ⟨k, rfl⟩ : ∃ m, k = m + 1 := ⟨k - 1, by omega⟩
    have hlt : i < (lst s).length := by rw [lst_len]; omega
    have hbt : bt s (i : Int) = ((lst s)[i].toNat : Int) := by rw [bt_nat, List.getD_eq_getElem?_getD, List.getElem?_eq_getElem hlt]; rfl
    simp only [noonmarkref02_ParseInt.l0]
    rw [if_pos (by omega), if_pos (by omega), hbt]
    have hmem : (lst s)[i] ∈ lst s := List.getElem_mem hlt
    by_cases h1 : ((lst s)[i].toNat : Int) < 48
    · rw [if_pos h1, if_pos]
      rw [List.all_eq_false]
      exact ⟨_, hmem, fun h => absurd h1 ((isDig_int _).1 h).1⟩
    · by_cases h2 : ((lst s)[i].toNat : Int) > 57
      · rw [if_neg h1, if_pos h2, if_pos]
        rw [List.all_eq_false]
        exact ⟨_, hmem, fun h => absurd h2 ((isDig_int _).1 h).2⟩
      · rw [if_neg h1, if_neg h2, IntWalk.wrap64_in _ (by omega), show ((i : Int) + 1) = ((i + 1 : Nat) : Int) by omega]
        refine ih k (i + 1) (by omega) (by omega) ?_
        rw [List.take_succ_eq_append_getElem hlt, List.all_append, ha]
        rw [show [(lst s)[i]].all isDig = isDig (lst s)[i] by simp, (isDig_int _).2 ⟨h1, h2⟩]
        rfl

theorem headD_bt (s : ByteArray) : bt s 0 = (((lst s).headD 0).toNat : Int) := by
  rw [show (0 : Int) = ((0 : Nat) : Int) from rfl, bt_nat]
  cases lst s <;> rfl
theorem u8_48 (c : UInt8) : ((c.toNat : Int) = 48) ↔ c = 48 := by
  constructor
  · intro e
    apply UInt8.toNat_inj.1
    show c.toNat = 48
    omega
  · rintro rfl
    rfl
theorem u8_45 (c : UInt8) : ((c.toNat : Int) = 45) ↔ c = 45 := by
  constructor
  · intro e
    apply UInt8.toNat_inj.1
    show c.toNat = 45
    omega
  · rintro rfl
    rfl
theorem u8_is (c : UInt8) (n : Nat) (h : n < 256) : ((c.toNat : Int) = (n : Int)) ↔ c = UInt8.ofNat n := by
  constructor
  · intro e
    apply UInt8.toNat_inj.1
    rw [UInt8.toNat_ofNat']
    omega
  · rintro rfl
    rw [UInt8.toNat_ofNat']
    omega

theorem pint_j2 (t : ByteArray) (low : Bool) (k : Nat) (hb : t.size ≤ 9223372036854775000) (hk : t.size + 26 < k) :
    noonmarkref02_ParseInt.j1 (k + 1) t low = some (pint2 (lst t) low) := by
  obtain ⟨k, rfl⟩ : ∃ m, k = m + 1 := ⟨k - 1, by omega⟩
  have hl := lst_len t
  have hL := pint_l0 t low hb t.size k 0 (by omega) (by omega) (by simp)
  have j2t : noonmarkref02_ParseInt.j2 (k + 1) t low true = some (0, 3) := by simp only [noonmarkref02_ParseInt.j2]; rw [if_pos trivial]
  have j2f : noonmarkref02_ParseInt.j2 (k + 1) t low false = noonmarkref02_ParseInt.l0 k t low 0 := by simp only [noonmarkref02_ParseInt.j2]; rw [if_neg (by decide)]
  simp only [noonmarkref02_ParseInt.j1]
  have hP : pint2 (lst t) low = if lst t = [] ∨ ((lst t).headD 0 = 48 ∧ (1 < (lst t).length ∨ low = true)) then (0, 3) else (if (lst t).all isDig = false then (0, 3) else if 19 < t.size then (0, 2) else pfin low (dval (lst t) 0)) := by
    unfold pint2 pfin
    rw [hl]
  rw [hP]
  by_cases h0 : (t.size : Int) = 0
  · have hn : lst t = [] := List.eq_nil_of_length_eq_zero (by omega)
    rw [if_pos h0, j2t, if_pos (Or.inl hn)]
  · have hn : ¬ lst t = [] := fun e => h0 (by rw [← hl, e]; rfl)
    rw [if_neg h0, if_pos (by omega), headD_bt]
    by_cases hz : (lst t).headD 0 = 48
    · rw [if_pos ((u8_48 _).2 hz)]
      by_cases h1 : (t.size : Int) > 1
      · rw [if_pos h1, j2t, if_pos (Or.inr ⟨hz, Or.inl (by omega)⟩)]
      · rw [if_neg h1]
        cases low with
        | true => rw [j2t, if_pos (Or.inr ⟨hz, Or.inr rfl⟩)]
        | false =>
          rw [j2f, if_neg (by rintro (h | ⟨_, h | h⟩); exact hn h; omega; cases h)]
          exact hL
    · rw [if_neg (fun h => hz ((u8_48 _).1 h)), j2f, if_neg (by rintro (h | ⟨h, _⟩); exact hn h; exact hz h)]
      exact hL

theorem noonmarkref02_ParseInt_eq (s : ByteArray) (k : Nat) (hb : s.size ≤ 9223372036854775000) (hk : s.size + 30 < k) :
    noonmarkref02_ParseInt.f k s = some (pintP (lst s)) := by
  obtain ⟨k, rfl⟩ : ∃ m, k = m + 2 := ⟨k - 2, by omega⟩
  have hl := lst_len s
  unfold noonmarkref02_ParseInt.f pintP
  have j0t : 1 ≤ s.size → noonmarkref02_ParseInt.j0 (k + 2) s true = some (pint2 ((lst s).drop 1) true) := fun h => by
    simp only [noonmarkref02_ParseInt.j0]
    rw [if_pos trivial, if_pos (by omega), ← lst_from]
    have hz : (s.extract 1 s.size).size = s.size - 1 := by rw [← lst_len, lst_from, List.length_drop, hl]
    exact pint_j2 _ _ _ (by omega) (by omega)
  have j0f : noonmarkref02_ParseInt.j0 (k + 2) s false = some (pint2 (lst s) false) := by
    simp only [noonmarkref02_ParseInt.j0]
    rw [if_neg (by decide)]
    exact pint_j2 _ _ _ (by omega) (by omega)
  by_cases h0 : (s.size : Int) > 0
  · rw [if_pos h0, if_pos (by omega), headD_bt]
    by_cases hz : (lst s).headD 0 = 45
    · rw [if_pos hz, hz]
      exact j0t (by omega)
    · rw [if_neg hz]
      have : ((((lst s).headD 0).toNat : Int) == 45) = false := beq_eq_false_iff_ne.mpr (fun h => hz ((u8_45 _).1 h))
      rw [this]
      exact j0f
  · have hn : lst s = [] := List.eq_nil_of_length_eq_zero (by omega)
    rw [if_neg h0, if_neg (by rw [hn]; decide)]
    exact j0f
end Go.Proofs.YtahpmeijinndhaaDoor.P

-- Written for this claim by a turned copy of the kit's print program (gprint_patch.py). Not trusted: Lean checks it.
namespace Go.Proofs.YtahpmeijinndhaaDoor.P
open Go.RowKit Go.Proofs.YtahpmeijinndhaaDoorW.PrintWords Go.Proofs.YtahpmeijinndhaaDoorW.PrintLast Go.Proofs.YtahpmeijinndhaaDoorW.PrintMore
attribute [local go_sem] max2_int min2_int max_two min_two max_three min_three max_four min_four   -- for this text's walks alone
set_option linter.unusedVariables false
set_option linter.unusedSimpArgs false

/-! ### noonmarkref02_digits: function 33 -/
def noonmarkref02_digits.f : Nat → Int → Option (ByteArray)
  | 0, _ => none
  | k + 1, a0 => (some (([(wrap64 (48 - (Int.tmod a0 10))) % 256] : List Int) : List Int)).bind fun y200 => (if a0 > (-10) then (some (strOfNums y200)) else ((noonmarkref02_digits.f k (wrap64 (Int.tdiv a0 10))).bind fun t203 => (if t203.size + (strOfNums y200).size ≤ 9223372036854775807 then (some (t203 ++ (strOfNums y200))) else (none))))
theorem noonmarkref02_digits.mono_l : ∀ k, (∀ y0, LeO (noonmarkref02_digits.f k y0) (noonmarkref02_digits.f (k + 1) y0))
  | 0 => fun _ r h => by simp [noonmarkref02_digits.f] at h
  | k + 1 => by
    have ih0 := noonmarkref02_digits.mono_l k
    · intro y0
      unfold noonmarkref02_digits.f
      repeat' first
      | (with_reducible exact ih0 _)
      | (with_reducible exact LeO.refl _)
      | (with_reducible exact LeO.none _)
      | (with_reducible refine LeO.ite ?_ ?_)
      | (with_reducible refine LeO.bind ?_ (fun _ => ?_))
      | exact ih0 _
      | exact LeO.none _
      | refine LeO.ite ?_ ?_
      | refine LeO.bind ?_ (fun _ => ?_)
theorem noonmarkref02_digits.mono : ∀ a0 k, LeO (noonmarkref02_digits.f k a0) (noonmarkref02_digits.f (k + 1) a0) := by
  intro a0 k
  have ih0 := noonmarkref02_digits.mono_l k
  exact ih0 a0
set_option maxHeartbeats 8000000 in
set_option maxRecDepth 100000 in
theorem noonmarkref02_digits.calls (k : Nat) : ∀ (a0 : Int) (r : ByteArray) (w : World) (hG : GOK w) (h : noonmarkref02_digits.f k a0 = some r),
    Calls Tryd.prog 33 #[.int .i64 a0] w fun e w' => e = .returned (.string r) ∧ Below w.heap.size w w' := by
  induction k using Nat.strongRecOn with
  | _ k ih =>
  intro a0 r w hG h
  cases k with
  | zero => exact absurd h (by simp [noonmarkref02_digits.f])
  | succ k =>
  simp only [noonmarkref02_digits.f] at h
  have HB := Aside0.mk (Below.refl w.heap.size w)
  have H : ((some (([(wrap64 (48 - (Int.tmod a0 10))) % 256] : List Int) : List Int)).bind fun y200 => (if a0 > (-10) then (some (strOfNums y200)) else ((noonmarkref02_digits.f k (wrap64 (Int.tdiv a0 10))).bind fun t203 => (if t203.size + (strOfNums y200).size ≤ 9223372036854775807 then (some (t203 ++ (strOfNums y200))) else (none))))) = some r := h
  clear h
  obtain ⟨y200, hy200⟩ : ∃ y_ : List Int, y_ = (([(wrap64 (48 - (Int.tmod a0 10))) % 256] : List Int)) := ⟨_, rfl⟩
  replace H : (if a0 > (-10) then (some (strOfNums y200)) else ((noonmarkref02_digits.f k (wrap64 (Int.tdiv a0 10))).bind fun t203 => (if t203.size + (strOfNums y200).size ≤ 9223372036854775807 then (some (t203 ++ (strOfNums y200))) else (none)))) = some r := by first | (rw [hy200]; with_reducible exact H) | (have H2_ := (Option.bind_some _ _).symm.trans H; rw [hy200]; with_reducible exact H2_) | (have H2_ := (Option.bind_some _ _).symm.trans H; with_reducible exact H2_) | with_reducible exact H | (rw [hy200]; exact H) | exact H
  have Ny200 := Aside0.mk hy200
  clear hy200
  by_cases c2 : a0 > (-10)
  · rw [if_pos c2] at H
    have c2b0 : decide ((-10) < a0) = true := decide_eq_true c2
    clear c2
    obtain rfl := Option.some.inj H
    go_enter Tryd.func33, Tryd.ntmps33
    go_wp2_with (first | ((with_reducible refine gate_dst (N := 8) rfl ?_); refine Kd.R_lit (Kd.int .u8) _ 5 ?hg (N := 8) ?hd (xs := ([(wrap64 (48 - (Int.tmod a0 10))) % 256] : List Int)) (inner := [.int .u8 ((wrap64 (48 - (Int.tmod a0 10))) % 256)]) (ok := fun _ => True) (okp := fun _ => True) ?hr ?hp (fun _ hk => hk) trivial (Below.refl _ _) (Nat.le_refl _) (by simp) ?_; (case hd => rfl); (case hg => rfl); (case hr => first | (go_simp; done) | (go_simp; rfl)); (case hp => exact (Reps.one (show Kd.M (Kd.int .u8) _ _ _ ((wrap64 (48 - (Int.tmod a0 10))) % 256) [.int .u8 ((wrap64 (48 - (Int.tmod a0 10))) % 256)] from rfl) (Reps.none _ _))); intro v201 w3 ho4 hb hg_ hnew_; clear hg_ hnew_; (first | rw [← Ny200.out] at ho4 | (simp only [Int.reduceToNat] at ho4; rw [← Ny200.out] at ho4)); have n0_ := Aside0.mk (Kd.R_lower ho4 (below_size (by repeat (first | (with_reducible first | exact HB.out | apply below_alloc | apply pw_below_drewN | apply below_drew1) | exact HB.out)))); have n1_ := Aside0.mk (below_step (by repeat (first | (with_reducible first | exact HB.out | apply below_alloc | apply pw_below_drewN | apply below_drew1) | exact HB.out)) hb); clear HB; have HO202 := n0_; have HB := n1_; clear n0_ n1_; clear hb ho4; have hcv5 := own_string (P := Tryd.prog) Tryd.underlying51 Tryd.underlying5 Tryd.underlying9 (Kd.own_of_R HO202.out)))
    go_ret
    exact ⟨by first | rfl | (simp [errW_none, errW_some] <;> rfl) | (simp [*, errW_none, errW_some] <;> rfl), by repeat (first | (with_reducible first | exact HB.out | apply below_alloc | apply pw_below_drewN | apply below_drew1) | exact HB.out)⟩
  · rw [if_neg c2] at H
    have c2b0 : decide ((-10) < a0) = false := decide_eq_false c2
    clear c2
    replace H := Option.bind_eq_some_iff.mp H
    obtain ⟨t203, A60, H⟩ := H
    replace H : (if t203.size + (strOfNums y200).size ≤ 9223372036854775807 then (some (t203 ++ (strOfNums y200))) else (none)) = some r := H
    have A6 := Aside0.mk A60
    clear A60
    by_cases c7 : t203.size + (strOfNums y200).size ≤ 9223372036854775807
    · rw [if_pos c7] at H
      have c7b0 := eq_true c7
      have c7b1 : decide (t203.size + (strOfNums y200).size ≤ 9223372036854775807) = true := decide_eq_true c7
      try have c7b2 : (9223372036854775807 < t203.size + (strOfNums y200).size) = False := eq_false (Nat.not_lt.2 c7)
      obtain rfl := Option.some.inj H
      go_enter Tryd.func33, Tryd.ntmps33
      go_wp2_with (first | ((with_reducible refine gate_dst (N := 8) rfl ?_); refine Kd.R_lit (Kd.int .u8) _ 5 ?hg (N := 8) ?hd (xs := ([(wrap64 (48 - (Int.tmod a0 10))) % 256] : List Int)) (inner := [.int .u8 ((wrap64 (48 - (Int.tmod a0 10))) % 256)]) (ok := fun _ => True) (okp := fun _ => True) ?hr ?hp (fun _ hk => hk) trivial (Below.refl _ _) (Nat.le_refl _) (by simp) ?_; (case hd => rfl); (case hg => rfl); (case hr => first | (go_simp; done) | (go_simp; rfl)); (case hp => exact (Reps.one (show Kd.M (Kd.int .u8) _ _ _ ((wrap64 (48 - (Int.tmod a0 10))) % 256) [.int .u8 ((wrap64 (48 - (Int.tmod a0 10))) % 256)] from rfl) (Reps.none _ _))); intro v201 w8 ho9 hb hg_ hnew_; clear hg_ hnew_; (first | rw [← Ny200.out] at ho9 | (simp only [Int.reduceToNat] at ho9; rw [← Ny200.out] at ho9)); have n0_ := Aside0.mk (Kd.R_lower ho9 (below_size (by repeat (first | (with_reducible first | exact HB.out | apply below_alloc | apply pw_below_drewN | apply below_drew1) | exact HB.out)))); have n1_ := Aside0.mk (below_step (by repeat (first | (with_reducible first | exact HB.out | apply below_alloc | apply pw_below_drewN | apply below_drew1) | exact HB.out)) hb); clear HB; have HO202 := n0_; have HB := n1_; clear n0_ n1_; clear hb ho9; have hcv10 := own_string (P := Tryd.prog) Tryd.underlying51 Tryd.underlying5 Tryd.underlying9 (Kd.own_of_R HO202.out)) | ((with_reducible refine gate_callee (f := 33) rfl ?_); refine goesL_ (some 15) rfl rfl Tryd.func33 (by kernel_rfl) rfl #[.int .i64 (wrap64 (Int.tdiv a0 10))] rfl (by (try simp only [List.map_toArray, List.map_cons, List.map_nil]); first | done | rfl | (simp only [List.length_drop, List.length_take]; rfl)) ?_; (with_reducible refine (ih k (by omega) (wrap64 (Int.tdiv a0 10)) t203 _ ?side1 A6.out).mono ?_); (case side1 => exact GOK.below hG (by repeat (first | (with_reducible first | exact HB.out | apply below_alloc | apply pw_below_drewN | apply below_drew1) | exact HB.out))); rintro e w11 ⟨rfl, hb⟩; refine ⟨_, rfl, ?_⟩; have n0_ := Aside0.mk (Kd.R_below (by (with_reducible repeat (first | apply Kd.R_alloc | apply Kd.R_drewN | apply Kd.R_drew)); exact HO202.out) hb); have n1_ := Aside0.mk (below_step (by repeat (first | (with_reducible first | exact HB.out | apply below_alloc | apply pw_below_drewN | apply below_drew1) | exact HB.out)) hb); clear HO202; clear HB; have HO202 := n0_; have HB := n1_; clear n0_ n1_; (try clear hb); (try clear hb2); (try clear hk); (try clear hi)))
      go_ret
      exact ⟨by first | rfl | (simp [errW_none, errW_some] <;> rfl) | (simp [*, errW_none, errW_some] <;> rfl), by repeat (first | (with_reducible first | exact HB.out | apply below_alloc | apply pw_below_drewN | apply below_drew1) | exact HB.out)⟩
    · rw [if_neg c7] at H
      exact absurd H (by simp)

end Go.Proofs.YtahpmeijinndhaaDoor.P

-- Written for this claim by a turned copy of the kit's print program (gprint_patch.py). Not trusted: Lean checks it.
namespace Go.Proofs.YtahpmeijinndhaaDoor.P
open Go.RowKit Go.Proofs.YtahpmeijinndhaaDoorW.PrintWords Go.Proofs.YtahpmeijinndhaaDoorW.PrintLast Go.Proofs.YtahpmeijinndhaaDoorW.PrintMore
attribute [local go_sem] max2_int min2_int max_two min_two max_three min_three max_four min_four   -- for this text's walks alone
set_option linter.unusedVariables false
set_option linter.unusedSimpArgs false

/-! ### noonmarkref02_Int: function 22 -/
def noonmarkref02_Int.f (k : Nat) (a0 : Int) : Option (ByteArray) := if a0 < 0 then ((noonmarkref02_digits.f k a0).bind fun t204 => (if 1 + t204.size ≤ 9223372036854775807 then (some ((⟨#[45]⟩ : ByteArray) ++ t204)) else (none))) else ((noonmarkref02_digits.f k (wrap64 (-a0))).bind fun t205 => (some t205))
theorem noonmarkref02_Int.mono : ∀ a0 k, LeO (noonmarkref02_Int.f k a0) (noonmarkref02_Int.f (k + 1) a0) := by
  intro a0 k
  unfold noonmarkref02_Int.f
  repeat' first
      | (with_reducible exact noonmarkref02_digits.mono _ _)
      | (with_reducible exact LeO.refl _)
      | (with_reducible exact LeO.none _)
      | (with_reducible refine LeO.ite ?_ ?_)
      | (with_reducible refine LeO.bind ?_ (fun _ => ?_))
      | exact noonmarkref02_digits.mono _ _
      | exact LeO.none _
      | refine LeO.ite ?_ ?_
      | refine LeO.bind ?_ (fun _ => ?_)
set_option maxHeartbeats 8000000 in
set_option maxRecDepth 100000 in
theorem noonmarkref02_Int.calls (k : Nat) (a0 : Int) (r : ByteArray) (w : World) (hG : GOK w) (h : noonmarkref02_Int.f k a0 = some r) :
    Calls Tryd.prog 22 #[.int .i64 a0] w fun e w' => e = .returned (.string r) ∧ Below w.heap.size w w' := by
  have HB := Aside0.mk (Below.refl w.heap.size w)
  have H : (if a0 < 0 then ((noonmarkref02_digits.f k a0).bind fun t204 => (if 1 + t204.size ≤ 9223372036854775807 then (some ((⟨#[45]⟩ : ByteArray) ++ t204)) else (none))) else ((noonmarkref02_digits.f k (wrap64 (-a0))).bind fun t205 => (some t205))) = some r := h
  clear h
  by_cases c2 : a0 < 0
  · rw [if_pos c2] at H
    have c2b0 : decide (a0 < 0) = true := decide_eq_true c2
    clear c2
    replace H := Option.bind_eq_some_iff.mp H
    obtain ⟨t204, A30, H⟩ := H
    replace H : (if 1 + t204.size ≤ 9223372036854775807 then (some ((⟨#[45]⟩ : ByteArray) ++ t204)) else (none)) = some r := H
    have A3 := Aside0.mk A30
    clear A30
    by_cases c4 : 1 + t204.size ≤ 9223372036854775807
    · rw [if_pos c4] at H
      have c4b0 := eq_true c4
      have c4b1 : decide (1 + t204.size ≤ 9223372036854775807) = true := decide_eq_true c4
      try have c4b2 : (9223372036854775807 < 1 + t204.size) = False := eq_false (Nat.not_lt.2 c4)
      obtain rfl := Option.some.inj H
      go_enter Tryd.func22, Tryd.ntmps22
      go_wp2_with (first | ((with_reducible refine gate_callee (f := 33) rfl ?_); refine goesL_ (some 6) rfl rfl Tryd.func33 (by kernel_rfl) rfl #[.int .i64 a0] rfl (by (try simp only [List.map_toArray, List.map_cons, List.map_nil]); first | done | rfl | (simp only [List.length_drop, List.length_take]; rfl)) ?_; (with_reducible refine (noonmarkref02_digits.calls k a0 t204 _ ?side1 A3.out).mono ?_); (case side1 => exact GOK.below hG (by repeat (first | (with_reducible first | exact HB.out | apply below_alloc | apply pw_below_drewN | apply below_drew1) | exact HB.out))); rintro e w5 ⟨rfl, hb⟩; refine ⟨_, rfl, ?_⟩; have n0_ := Aside0.mk (below_step (by repeat (first | (with_reducible first | exact HB.out | apply below_alloc | apply pw_below_drewN | apply below_drew1) | exact HB.out)) hb); clear HB; have HB := n0_; clear n0_; (try clear hb); (try clear hb2); (try clear hk); (try clear hi)))
      go_ret
      exact ⟨by first | rfl | (simp [errW_none, errW_some] <;> rfl) | (simp [*, errW_none, errW_some] <;> rfl), by repeat (first | (with_reducible first | exact HB.out | apply below_alloc | apply pw_below_drewN | apply below_drew1) | exact HB.out)⟩
    · rw [if_neg c4] at H
      exact absurd H (by simp)
  · rw [if_neg c2] at H
    have c2b0 : decide (a0 < 0) = false := decide_eq_false c2
    clear c2
    replace H := Option.bind_eq_some_iff.mp H
    obtain ⟨t205, A60, H⟩ := H
    replace H : (some t205) = some r := H
    have A6 := Aside0.mk A60
    clear A60
    obtain rfl := Option.some.inj H
    go_enter Tryd.func22, Tryd.ntmps22
    go_wp2_with (first | ((with_reducible refine gate_callee (f := 33) rfl ?_); refine goesL_ (some 10) rfl rfl Tryd.func33 (by kernel_rfl) rfl #[.int .i64 (wrap64 (-a0))] rfl (by (try simp only [List.map_toArray, List.map_cons, List.map_nil]); first | done | rfl | (simp only [List.length_drop, List.length_take]; rfl)) ?_; (with_reducible refine (noonmarkref02_digits.calls k (wrap64 (-a0)) t205 _ ?side1 A6.out).mono ?_); (case side1 => exact GOK.below hG (by repeat (first | (with_reducible first | exact HB.out | apply below_alloc | apply pw_below_drewN | apply below_drew1) | exact HB.out))); rintro e w7 ⟨rfl, hb⟩; refine ⟨_, rfl, ?_⟩; have n0_ := Aside0.mk (below_step (by repeat (first | (with_reducible first | exact HB.out | apply below_alloc | apply pw_below_drewN | apply below_drew1) | exact HB.out)) hb); clear HB; have HB := n0_; clear n0_; (try clear hb); (try clear hb2); (try clear hk); (try clear hi)))
    go_ret
    exact ⟨by first | rfl | (simp [errW_none, errW_some] <;> rfl) | (simp [*, errW_none, errW_some] <;> rfl), by repeat (first | (with_reducible first | exact HB.out | apply below_alloc | apply pw_below_drewN | apply below_drew1) | exact HB.out)⟩

end Go.Proofs.YtahpmeijinndhaaDoor.P

/-
  Plain law of the document's Int (noonmarkref02): it is the decimal text.
-/
namespace Go.Proofs.YtahpmeijinndhaaDoor.P
open Go.RowKit Go.Proofs.YtahpmeijinndhaaDoorW.PrintWords
set_option linter.unusedVariables false

theorem decDigits_lt (u : Nat) (h : u < 10) : Lib.decDigits u = [UInt8.ofNat (48 + u)] := by rw [Lib.decDigits, dif_pos h]
theorem decDigits_ge (u : Nat) (h : ¬ u < 10) : Lib.decDigits u = Lib.decDigits (u / 10) ++ [UInt8.ofNat (48 + u % 10)] := by rw [Lib.decDigits, dif_neg h]
theorem decDigits_len (u : Nat) : ∀ d, u < 10 ^ d → (Lib.decDigits u).length ≤ d + 1 := by
  intro d
  induction d generalizing u with
  | zero => intro h; rw [decDigits_lt u (by simp at h; omega)]; simp
  | succ d ih =>
    intro h
    by_cases h1 : u < 10
    · rw [decDigits_lt u h1]; simp
    · rw [decDigits_ge u h1, List.length_append]
      have := ih (u / 10) (by rw [Nat.pow_succ] at h; omega)
      simp
      omega

theorem one_digit (u : Nat) (hu : u ≤ 9223372036854775808) : strOfNums [(wrap64 (48 - (Int.tmod (-(u : Int)) 10))) % 256] = ⟨[UInt8.ofNat (48 + u % 10)].toArray⟩ := by
  rw [tmod_np (by omega), IntWalk.wrap64_in _ (by omega)]
  unfold strOfNums
  simp only [List.map_cons, List.map_nil]
  rw [show ((48 - -(- -(u : Int) % 10)) % 256).toNat = 48 + u % 10 by omega]
theorem append_mk (a b : List UInt8) : (⟨a.toArray⟩ : ByteArray) ++ (⟨b.toArray⟩ : ByteArray) = ⟨(a ++ b).toArray⟩ := lst_inj (by rw [lst_append, lst_mk, lst_mk, lst_mk])

theorem digits_eq (d : Nat) (hd : d ≤ 30) : ∀ (k u : Nat), u < 10 ^ (d + 1) → u ≤ 9223372036854775808 → d < k → noonmarkref02_digits.f k (-(u : Int)) = some ⟨(Lib.decDigits u).toArray⟩ := by
  induction d with
  | zero =>
    intro k u h hu hk
    obtain ⟨k, rfl⟩ : ∃ m, k = m + 1 := ⟨k - 1, by omega⟩
    have h9 : u < 10 := by simpa using h
    rw [decDigits_lt u h9]
    simp only [noonmarkref02_digits.f, Option.bind_some]
    rw [if_pos (by omega), one_digit u hu, Nat.mod_eq_of_lt h9]
  | succ d ih =>
    intro k u h hu hk
    obtain ⟨k, rfl⟩ : ∃ m, k = m + 1 := ⟨k - 1, by omega⟩
    simp only [noonmarkref02_digits.f, Option.bind_some]
    by_cases h9 : u < 10
    · rw [if_pos (by omega), one_digit u hu, Nat.mod_eq_of_lt h9, decDigits_lt u h9]
    · have hu2 : u / 10 < 10 ^ (d + 1) := by rw [Nat.pow_succ] at h; omega
      rw [if_neg (by omega), tdiv_np (by omega), IntWalk.wrap64_in _ (by omega), show (-(- -(u : Int) / 10)) = -((u / 10 : Nat) : Int) by omega, ih (by omega) k (u / 10) hu2 (by omega) (by omega), one_digit u hu]
      simp only [Option.bind_some]
      have hl := decDigits_len (u / 10) (d + 1) hu2
      rw [if_pos (by rw [size_mk, size_mk]; simp; omega), append_mk, decDigits_ge u h9]

theorem noonmarkref02_Int_eq (n : Int) (k : Nat) (h0 : -9223372036854775808 ≤ n) (h1 : n ≤ 9223372036854775807) (hk : 20 ≤ k) : noonmarkref02_Int.f k n = some ⟨(Lib.itoa n).toArray⟩ := by
  unfold noonmarkref02_Int.f Lib.itoa
  by_cases h : n < 0
  · rw [if_pos h, if_pos h]
    have hb : n.natAbs < 10 ^ (19 + 1) := by omega
    have e : n = -(n.natAbs : Int) := by omega
    have := digits_eq 19 (by omega) k n.natAbs hb (by omega) (by omega)
    rw [← e] at this
    rw [this]
    simp only [Option.bind_some]
    have hl := decDigits_len n.natAbs 20 hb
    rw [if_pos (by rw [size_mk]; omega)]
    exact congrArg some (append_mk [45] _)
  · rw [if_neg h, if_neg h]
    have hb : n.toNat < 10 ^ (19 + 1) := by omega
    have := digits_eq 19 (by omega) k n.toNat hb (by omega) (by omega)
    rw [IntWalk.wrap64_in _ (by omega), show -n = -(n.toNat : Int) by omega, this]
    rfl
end Go.Proofs.YtahpmeijinndhaaDoor.P

-- Written for this claim by a turned copy of the kit's print program (gprint_patch.py). Not trusted: Lean checks it.
namespace Go.Proofs.YtahpmeijinndhaaDoor.P
open Go.RowKit Go.Proofs.YtahpmeijinndhaaDoorW.PrintWords Go.Proofs.YtahpmeijinndhaaDoorW.PrintLast Go.Proofs.YtahpmeijinndhaaDoorW.PrintMore
attribute [local go_sem] max2_int min2_int max_two min_two max_three min_three max_four min_four   -- for this text's walks alone
set_option linter.unusedVariables false
set_option linter.unusedSimpArgs false

/-! ### noonmarkref06_Right: function 21 -/
mutual
def noonmarkref06_Right.j0 : Nat → Bool → Int → Int → Int → Option (Bool)
  | 0, _, _, _, _ => none
  | k + 1, x3, x200000, x200001, x200002 => if x200002 ≥ 0 then (noonmarkref06_Right.j1 k x3 (decide (x200002 ≤ 6)) x200000 x200001 x200002) else (noonmarkref06_Right.j1 k x3 false x200000 x200001 x200002)
def noonmarkref06_Right.j1 : Nat → Bool → Bool → Int → Int → Int → Option (Bool)
  | 0, _, _, _, _, _ => none
  | k + 1, x3, x4, x200000, x200001, x200002 => if x200000 = 0 then (if x3 = true then (some (x200002 == 0)) else (some false)) else (if x200000 = 1 then (if x4 = true then (some (x200001 == 0)) else (some false)) else (if x200000 = 2 then (if x3 = true then (some x4) else (some false)) else (if x200000 = 3 then (if x3 = true then (some x4) else (some false)) else (some false))))
end
def noonmarkref06_Right.f (k : Nat) (a0_0 : Int) (a0_1 : Int) (a0_2 : Int) : Option (Bool) := if a0_1 ≥ 1 then (noonmarkref06_Right.j0 k (decide (a0_1 ≤ 31)) a0_0 a0_1 a0_2) else (noonmarkref06_Right.j0 k false a0_0 a0_1 a0_2)
theorem noonmarkref06_Right.mono_l : ∀ k, (∀ y0 y1 y2 y3, LeO (noonmarkref06_Right.j0 k y0 y1 y2 y3) (noonmarkref06_Right.j0 (k + 1) y0 y1 y2 y3)) ∧ (∀ y0 y1 y2 y3 y4, LeO (noonmarkref06_Right.j1 k y0 y1 y2 y3 y4) (noonmarkref06_Right.j1 (k + 1) y0 y1 y2 y3 y4))
  | 0 => ⟨fun _ _ _ _ r h => by simp [noonmarkref06_Right.j0] at h, fun _ _ _ _ _ r h => by simp [noonmarkref06_Right.j1] at h⟩
  | k + 1 => by
    obtain ⟨ih0, ih1⟩ := noonmarkref06_Right.mono_l k
    refine ⟨?_, ?_⟩
    · intro y0 y1 y2 y3
      unfold noonmarkref06_Right.j0
      repeat' first
      | (with_reducible exact ih0 _ _ _ _)
      | (with_reducible exact ih1 _ _ _ _ _)
      | (with_reducible exact LeO.refl _)
      | (with_reducible exact LeO.none _)
      | (with_reducible refine LeO.ite ?_ ?_)
      | (with_reducible refine LeO.bind ?_ (fun _ => ?_))
      | exact ih0 _ _ _ _
      | exact ih1 _ _ _ _ _
      | exact LeO.none _
      | refine LeO.ite ?_ ?_
      | refine LeO.bind ?_ (fun _ => ?_)
    · intro y0 y1 y2 y3 y4
      unfold noonmarkref06_Right.j1
      repeat' first
      | (with_reducible exact ih0 _ _ _ _)
      | (with_reducible exact ih1 _ _ _ _ _)
      | (with_reducible exact LeO.refl _)
      | (with_reducible exact LeO.none _)
      | (with_reducible refine LeO.ite ?_ ?_)
      | (with_reducible refine LeO.bind ?_ (fun _ => ?_))
      | exact ih0 _ _ _ _
      | exact ih1 _ _ _ _ _
      | exact LeO.none _
      | refine LeO.ite ?_ ?_
      | refine LeO.bind ?_ (fun _ => ?_)
theorem noonmarkref06_Right.mono : ∀ a0 a1 a2 k, LeO (noonmarkref06_Right.f k a0 a1 a2) (noonmarkref06_Right.f (k + 1) a0 a1 a2) := by
  intro a0 a1 a2 k
  obtain ⟨ih0, ih1⟩ := noonmarkref06_Right.mono_l k
  unfold noonmarkref06_Right.f
  repeat' first
      | (with_reducible exact ih0 _ _ _ _)
      | (with_reducible exact ih1 _ _ _ _ _)
      | (with_reducible exact LeO.refl _)
      | (with_reducible exact LeO.none _)
      | (with_reducible refine LeO.ite ?_ ?_)
      | (with_reducible refine LeO.bind ?_ (fun _ => ?_))
      | exact ih0 _ _ _ _
      | exact ih1 _ _ _ _ _
      | exact LeO.none _
      | refine LeO.ite ?_ ?_
      | refine LeO.bind ?_ (fun _ => ?_)
set_option maxHeartbeats 8000000 in
set_option maxRecDepth 100000 in
theorem noonmarkref06_Right.calls (k : Nat) (a0_0 : Int) (a0_1 : Int) (a0_2 : Int) (r : Bool) (w : World) (hG : GOK w) (h : noonmarkref06_Right.f k a0_0 a0_1 a0_2 = some r) :
    Calls Tryd.prog 21 #[.agg #[.int .i64 a0_0, .int .i64 a0_1, .int .i64 a0_2]] w fun e w' => e = .returned (.bool r) ∧ Below w.heap.size w w' := by
  have hu23 := Tryd.underlying23
  have HB := Aside0.mk (Below.refl w.heap.size w)
  have H : (if a0_1 ≥ 1 then (noonmarkref06_Right.j0 k (decide (a0_1 ≤ 31)) a0_0 a0_1 a0_2) else (noonmarkref06_Right.j0 k false a0_0 a0_1 a0_2)) = some r := h
  clear h
  have HC2 := Aside0.mk H
  clear H
  go_enter Tryd.func21, Tryd.ntmps21
  go_upto_region 1 with (first | ((with_reducible refine gate_dst (N := 1) rfl ?_); refine box_event ?hg (N := 1) ?hd (cs := #[.int .i64 a0_0, .int .i64 a0_1, .int .i64 a0_2]) (t := 23) ?hr ?_; (case hd => rfl); (case hg => rfl); (case hr => first | (go_simp; done) | (go_simp; rfl)); intro gb199 hg w3 hbox hb; have n0_ := Aside0.mk (below_step (by repeat (first | (with_reducible first | exact HB.out | apply below_alloc | apply pw_below_drewN | apply below_drew1) | exact HB.out)) hb); have n1_ := Aside0.mk (hbox); have n2_ := Aside0.mk ((by rw [hg]; exact (below_size (by repeat (first | (with_reducible first | exact HB.out | apply below_alloc | apply pw_below_drewN | apply below_drew1) | exact HB.out))) : w.heap.size ≤ gb199)); have n3_ := Aside0.mk ((by rw [hg]; exact (below_size (by repeat (first | (with_reducible first | exact HB.out | apply below_alloc | apply pw_below_drewN | apply below_drew1) | exact HB.out))) : w.heap.size ≤ gb199)); clear HB; have HB := n0_; have BK199 := n1_; have GW199 := n2_; have GE199 := n3_; clear n0_ n1_ n2_ n3_; clear hb hbox hg))
  (try simp only [Act.put, List.setIfInBounds_toArray, List.set_cons_zero, List.set_cons_succ])
  go_cut [3] (fun v3 wc => ∃ (kq : Nat) (x3_1 : Bool), v3 = .bool x3_1 ∧ Aside0 (noonmarkref06_Right.j0 kq x3_1 a0_0 a0_1 a0_2 = some r) ∧ Aside0 (kq ≤ k) ∧ Aside0 (wc.heap[gb199]? = some (.cells #[.int .i64 a0_0, .int .i64 a0_1, .int .i64 a0_2] 23 (0, 0))) ∧ Aside0 (Below w.heap.size w wc))
  case first =>
    have H := HC2.out
    clear HC2
    by_cases c4 : a0_1 ≥ 1
    · rw [if_pos c4] at H
      have c4b0 : decide (1 ≤ a0_1) = true := decide_eq_true c4
      clear c4
      (first | rw [c4b0] | (simp only [i64_w, i32_w]; rw [c4b0]) | skip)
      have H' := Aside0.mk H
      clear H
      have hcz5_0 : w3.cell? ⟨gb199, 0, none⟩ = some (.int .i64 a0_0) := (blk_cell BK199.out 0).trans rfl
      have hcz5_1 : w3.cell? ⟨gb199, 1, none⟩ = some (.int .i64 a0_1) := (blk_cell BK199.out 1).trans rfl
      have hcz5_2 : w3.cell? ⟨gb199, 2, none⟩ = some (.int .i64 a0_2) := (blk_cell BK199.out 2).trans rfl
      have hfz5_0 := blk_frozen BK199.out 0
      have hfz5_1 := blk_frozen BK199.out 1
      have hfz5_2 := blk_frozen BK199.out 2
      go_wp2
      go_meet
      case rel => exact ⟨_, (decide (a0_1 ≤ 31)), (by first | rfl | (simp; done) | (simp [*]; done)), H', ⟨by first | omega | exact Nat.le_refl _⟩, ⟨by (with_reducible repeat (first | refine blk_drewN ?_ _ | refine blk_drew ?_ | refine blk_alloc ?_ _)); exact BK199.out⟩, ⟨by repeat (first | (with_reducible first | exact HB.out | apply below_alloc | apply pw_below_drewN | apply below_drew1 | refine below_set ?_ GE199.out) | exact HB.out)⟩⟩
    · rw [if_neg c4] at H
      have c4b0 : decide (1 ≤ a0_1) = false := decide_eq_false c4
      clear c4
      (first | rw [c4b0] | (simp only [i64_w, i32_w]; rw [c4b0]) | skip)
      have H' := Aside0.mk H
      clear H
      have hcz6_0 : w3.cell? ⟨gb199, 0, none⟩ = some (.int .i64 a0_0) := (blk_cell BK199.out 0).trans rfl
      have hcz6_1 : w3.cell? ⟨gb199, 1, none⟩ = some (.int .i64 a0_1) := (blk_cell BK199.out 1).trans rfl
      have hcz6_2 : w3.cell? ⟨gb199, 2, none⟩ = some (.int .i64 a0_2) := (blk_cell BK199.out 2).trans rfl
      have hfz6_0 := blk_frozen BK199.out 0
      have hfz6_1 := blk_frozen BK199.out 1
      have hfz6_2 := blk_frozen BK199.out 2
      go_wp2
      go_meet
      case rel => exact ⟨_, (false), (by first | rfl | (simp; done) | (simp [*]; done)), H', ⟨by first | omega | exact Nat.le_refl _⟩, ⟨by (with_reducible repeat (first | refine blk_drewN ?_ _ | refine blk_drew ?_ | refine blk_alloc ?_ _)); exact BK199.out⟩, ⟨by repeat (first | (with_reducible first | exact HB.out | apply below_alloc | apply pw_below_drewN | apply below_drew1 | refine below_set ?_ GE199.out) | exact HB.out)⟩⟩
  case rest =>
    clear HC2
    try clear c2
    try clear p2
    try clear c4
    try clear c4b0
    try clear hcz5_0
    try clear hcz5_1
    try clear hcz5_2
    try clear hcz6_0
    try clear hcz6_1
    try clear hcz6_2
    try clear hfz5_0
    try clear hfz5_1
    try clear hfz5_2
    try clear hfz6_0
    try clear hfz6_1
    try clear hfz6_2
    obtain ⟨kq, x3_1, rfl, HA, HJ1, BK199, HB⟩ := hcut
    cases kq with
    | zero => exact absurd HA.out (by simp [noonmarkref06_Right.j0])
    | succ kj1 =>
      have H := HA.out
      clear HA
      simp only [noonmarkref06_Right.j0] at H
      have HC7 := Aside0.mk H
      clear H
      go_upto_region 2 with (fail)
      go_cut [4] (fun v4 wc => ∃ (kq : Nat) (x4_6 : Bool), v4 = .bool x4_6 ∧ Aside0 (noonmarkref06_Right.j1 kq x3_1 x4_6 a0_0 a0_1 a0_2 = some r) ∧ Aside0 (kq ≤ kj1) ∧ Aside0 (wc.heap[gb199]? = some (.cells #[.int .i64 a0_0, .int .i64 a0_1, .int .i64 a0_2] 23 (0, 0))) ∧ Aside0 (Below w.heap.size w wc))
      case first =>
        have H := HC7.out
        clear HC7
        by_cases c8 : a0_2 ≥ 0
        · rw [if_pos c8] at H
          have c8b0 : decide (0 ≤ a0_2) = true := decide_eq_true c8
          clear c8
          (first | rw [c8b0] | (simp only [i64_w, i32_w]; rw [c8b0]) | skip)
          have H' := Aside0.mk H
          clear H
          have hcz9_0 : wc.cell? ⟨gb199, 0, none⟩ = some (.int .i64 a0_0) := (blk_cell BK199.out 0).trans rfl
          have hcz9_1 : wc.cell? ⟨gb199, 1, none⟩ = some (.int .i64 a0_1) := (blk_cell BK199.out 1).trans rfl
          have hcz9_2 : wc.cell? ⟨gb199, 2, none⟩ = some (.int .i64 a0_2) := (blk_cell BK199.out 2).trans rfl
          have hfz9_0 := blk_frozen BK199.out 0
          have hfz9_1 := blk_frozen BK199.out 1
          have hfz9_2 := blk_frozen BK199.out 2
          go_wp2
          go_meet
          case rel => exact ⟨_, (decide (a0_2 ≤ 6)), (by first | rfl | (simp; done) | (simp [*]; done)), H', ⟨by have := HJ1.out; first | omega | exact Nat.le_refl _⟩, ⟨by (with_reducible repeat (first | refine blk_drewN ?_ _ | refine blk_drew ?_ | refine blk_alloc ?_ _)); exact BK199.out⟩, ⟨by repeat (first | (with_reducible first | exact HB.out | apply below_alloc | apply pw_below_drewN | apply below_drew1 | refine below_set ?_ GE199.out) | exact HB.out)⟩⟩
        · rw [if_neg c8] at H
          have c8b0 : decide (0 ≤ a0_2) = false := decide_eq_false c8
          clear c8
          (first | rw [c8b0] | (simp only [i64_w, i32_w]; rw [c8b0]) | skip)
          have H' := Aside0.mk H
          clear H
          have hcz10_0 : wc.cell? ⟨gb199, 0, none⟩ = some (.int .i64 a0_0) := (blk_cell BK199.out 0).trans rfl
          have hcz10_1 : wc.cell? ⟨gb199, 1, none⟩ = some (.int .i64 a0_1) := (blk_cell BK199.out 1).trans rfl
          have hcz10_2 : wc.cell? ⟨gb199, 2, none⟩ = some (.int .i64 a0_2) := (blk_cell BK199.out 2).trans rfl
          have hfz10_0 := blk_frozen BK199.out 0
          have hfz10_1 := blk_frozen BK199.out 1
          have hfz10_2 := blk_frozen BK199.out 2
          go_wp2
          go_meet
          case rel => exact ⟨_, (false), (by first | rfl | (simp; done) | (simp [*]; done)), H', ⟨by have := HJ1.out; first | omega | exact Nat.le_refl _⟩, ⟨by (with_reducible repeat (first | refine blk_drewN ?_ _ | refine blk_drew ?_ | refine blk_alloc ?_ _)); exact BK199.out⟩, ⟨by repeat (first | (with_reducible first | exact HB.out | apply below_alloc | apply pw_below_drewN | apply below_drew1 | refine below_set ?_ GE199.out) | exact HB.out)⟩⟩
      case rest =>
        clear HC7
        try clear c2
        try clear p2
        try clear c4
        try clear c4b0
        try clear c8
        try clear c8b0
        try clear hcz10_0
        try clear hcz10_1
        try clear hcz10_2
        try clear hcz5_0
        try clear hcz5_1
        try clear hcz5_2
        try clear hcz6_0
        try clear hcz6_1
        try clear hcz6_2
        try clear hcz9_0
        try clear hcz9_1
        try clear hcz9_2
        try clear hfz10_0
        try clear hfz10_1
        try clear hfz10_2
        try clear hfz5_0
        try clear hfz5_1
        try clear hfz5_2
        try clear hfz6_0
        try clear hfz6_1
        try clear hfz6_2
        try clear hfz9_0
        try clear hfz9_1
        try clear hfz9_2
        try clear p2
        obtain ⟨kq, x4_6, rfl, HA, HJ6, BK199, HB⟩ := hcut
        cases kq with
        | zero => exact absurd HA.out (by simp [noonmarkref06_Right.j1])
        | succ kj6 =>
          have H := HA.out
          clear HA
          simp only [noonmarkref06_Right.j1] at H
          by_cases c11 : a0_0 = 0
          · rw [if_pos c11] at H
            have c11b0 : (a0_0 == 0) = true := beq_iff_eq.mpr c11
            have c11b1 : (a0_0 != 0) = false := bne_eq_false_iff_eq.mpr c11
            clear c11
            by_cases c12 : x3_1 = true
            · subst c12
              have H1 : (some (a0_2 == 0)) = some r := by rw [if_pos rfl] at H; exact H
              clear H
              have H := H1
              clear H1
              obtain rfl := Option.some.inj H
              have hcz13_0 : wc.cell? ⟨gb199, 0, none⟩ = some (.int .i64 a0_0) := (blk_cell BK199.out 0).trans rfl
              have hcz13_1 : wc.cell? ⟨gb199, 1, none⟩ = some (.int .i64 a0_1) := (blk_cell BK199.out 1).trans rfl
              have hcz13_2 : wc.cell? ⟨gb199, 2, none⟩ = some (.int .i64 a0_2) := (blk_cell BK199.out 2).trans rfl
              have hfz13_0 := blk_frozen BK199.out 0
              have hfz13_1 := blk_frozen BK199.out 1
              have hfz13_2 := blk_frozen BK199.out 2
              go_wp2
              go_ret
              exact ⟨by first | rfl | (simp [errW_none, errW_some] <;> rfl) | (simp [*, errW_none, errW_some] <;> rfl), by repeat (first | (with_reducible first | exact HB.out | apply below_alloc | apply pw_below_drewN | apply below_drew1 | refine below_set ?_ GE199.out) | exact HB.out)⟩
            · replace c12 := Bool.eq_false_iff.mpr c12
              subst c12
              have H1 : (some false) = some r := by rw [if_neg (show ¬ (false = true) by decide)] at H; exact H
              clear H
              have H := H1
              clear H1
              obtain rfl := Option.some.inj H
              have hcz14_0 : wc.cell? ⟨gb199, 0, none⟩ = some (.int .i64 a0_0) := (blk_cell BK199.out 0).trans rfl
              have hcz14_1 : wc.cell? ⟨gb199, 1, none⟩ = some (.int .i64 a0_1) := (blk_cell BK199.out 1).trans rfl
              have hcz14_2 : wc.cell? ⟨gb199, 2, none⟩ = some (.int .i64 a0_2) := (blk_cell BK199.out 2).trans rfl
              have hfz14_0 := blk_frozen BK199.out 0
              have hfz14_1 := blk_frozen BK199.out 1
              have hfz14_2 := blk_frozen BK199.out 2
              go_wp2
              go_ret
              exact ⟨by first | rfl | (simp [errW_none, errW_some] <;> rfl) | (simp [*, errW_none, errW_some] <;> rfl), by repeat (first | (with_reducible first | exact HB.out | apply below_alloc | apply pw_below_drewN | apply below_drew1 | refine below_set ?_ GE199.out) | exact HB.out)⟩
          · rw [if_neg c11] at H
            have c11b0 : (a0_0 == 0) = false := beq_eq_false_iff_ne.mpr c11
            have c11b1 : (a0_0 != 0) = true := bne_iff_ne.mpr c11
            by_cases c15 : a0_0 = 1
            · rw [if_pos c15] at H
              have c15b0 : (a0_0 == 1) = true := beq_iff_eq.mpr c15
              have c15b1 : (a0_0 != 1) = false := bne_eq_false_iff_eq.mpr c15
              clear c15
              by_cases c16 : x4_6 = true
              · subst c16
                have H1 : (some (a0_1 == 0)) = some r := by rw [if_pos rfl] at H; exact H
                clear H
                have H := H1
                clear H1
                obtain rfl := Option.some.inj H
                have hcz17_0 : wc.cell? ⟨gb199, 0, none⟩ = some (.int .i64 a0_0) := (blk_cell BK199.out 0).trans rfl
                have hcz17_1 : wc.cell? ⟨gb199, 1, none⟩ = some (.int .i64 a0_1) := (blk_cell BK199.out 1).trans rfl
                have hcz17_2 : wc.cell? ⟨gb199, 2, none⟩ = some (.int .i64 a0_2) := (blk_cell BK199.out 2).trans rfl
                have hfz17_0 := blk_frozen BK199.out 0
                have hfz17_1 := blk_frozen BK199.out 1
                have hfz17_2 := blk_frozen BK199.out 2
                go_wp2
                go_ret
                exact ⟨by first | rfl | (simp [errW_none, errW_some] <;> rfl) | (simp [*, errW_none, errW_some] <;> rfl), by repeat (first | (with_reducible first | exact HB.out | apply below_alloc | apply pw_below_drewN | apply below_drew1 | refine below_set ?_ GE199.out) | exact HB.out)⟩
              · replace c16 := Bool.eq_false_iff.mpr c16
                subst c16
                have H1 : (some false) = some r := by rw [if_neg (show ¬ (false = true) by decide)] at H; exact H
                clear H
                have H := H1
                clear H1
                obtain rfl := Option.some.inj H
                have hcz18_0 : wc.cell? ⟨gb199, 0, none⟩ = some (.int .i64 a0_0) := (blk_cell BK199.out 0).trans rfl
                have hcz18_1 : wc.cell? ⟨gb199, 1, none⟩ = some (.int .i64 a0_1) := (blk_cell BK199.out 1).trans rfl
                have hcz18_2 : wc.cell? ⟨gb199, 2, none⟩ = some (.int .i64 a0_2) := (blk_cell BK199.out 2).trans rfl
                have hfz18_0 := blk_frozen BK199.out 0
                have hfz18_1 := blk_frozen BK199.out 1
                have hfz18_2 := blk_frozen BK199.out 2
                go_wp2
                go_ret
                exact ⟨by first | rfl | (simp [errW_none, errW_some] <;> rfl) | (simp [*, errW_none, errW_some] <;> rfl), by repeat (first | (with_reducible first | exact HB.out | apply below_alloc | apply pw_below_drewN | apply below_drew1 | refine below_set ?_ GE199.out) | exact HB.out)⟩
            · rw [if_neg c15] at H
              have c15b0 : (a0_0 == 1) = false := beq_eq_false_iff_ne.mpr c15
              have c15b1 : (a0_0 != 1) = true := bne_iff_ne.mpr c15
              by_cases c19 : a0_0 = 2
              · rw [if_pos c19] at H
                have c19b0 : (a0_0 == 2) = true := beq_iff_eq.mpr c19
                have c19b1 : (a0_0 != 2) = false := bne_eq_false_iff_eq.mpr c19
                clear c19
                by_cases c20 : x3_1 = true
                · subst c20
                  have H1 : (some x4_6) = some r := by rw [if_pos rfl] at H; exact H
                  clear H
                  have H := H1
                  clear H1
                  obtain rfl := Option.some.inj H
                  have hcz21_0 : wc.cell? ⟨gb199, 0, none⟩ = some (.int .i64 a0_0) := (blk_cell BK199.out 0).trans rfl
                  have hcz21_1 : wc.cell? ⟨gb199, 1, none⟩ = some (.int .i64 a0_1) := (blk_cell BK199.out 1).trans rfl
                  have hcz21_2 : wc.cell? ⟨gb199, 2, none⟩ = some (.int .i64 a0_2) := (blk_cell BK199.out 2).trans rfl
                  have hfz21_0 := blk_frozen BK199.out 0
                  have hfz21_1 := blk_frozen BK199.out 1
                  have hfz21_2 := blk_frozen BK199.out 2
                  go_wp2
                  go_ret
                  exact ⟨by first | rfl | (simp [errW_none, errW_some] <;> rfl) | (simp [*, errW_none, errW_some] <;> rfl), by repeat (first | (with_reducible first | exact HB.out | apply below_alloc | apply pw_below_drewN | apply below_drew1 | refine below_set ?_ GE199.out) | exact HB.out)⟩
                · replace c20 := Bool.eq_false_iff.mpr c20
                  subst c20
                  have H1 : (some false) = some r := by rw [if_neg (show ¬ (false = true) by decide)] at H; exact H
                  clear H
                  have H := H1
                  clear H1
                  obtain rfl := Option.some.inj H
                  have hcz22_0 : wc.cell? ⟨gb199, 0, none⟩ = some (.int .i64 a0_0) := (blk_cell BK199.out 0).trans rfl
                  have hcz22_1 : wc.cell? ⟨gb199, 1, none⟩ = some (.int .i64 a0_1) := (blk_cell BK199.out 1).trans rfl
                  have hcz22_2 : wc.cell? ⟨gb199, 2, none⟩ = some (.int .i64 a0_2) := (blk_cell BK199.out 2).trans rfl
                  have hfz22_0 := blk_frozen BK199.out 0
                  have hfz22_1 := blk_frozen BK199.out 1
                  have hfz22_2 := blk_frozen BK199.out 2
                  go_wp2
                  go_ret
                  exact ⟨by first | rfl | (simp [errW_none, errW_some] <;> rfl) | (simp [*, errW_none, errW_some] <;> rfl), by repeat (first | (with_reducible first | exact HB.out | apply below_alloc | apply pw_below_drewN | apply below_drew1 | refine below_set ?_ GE199.out) | exact HB.out)⟩
              · rw [if_neg c19] at H
                have c19b0 : (a0_0 == 2) = false := beq_eq_false_iff_ne.mpr c19
                have c19b1 : (a0_0 != 2) = true := bne_iff_ne.mpr c19
                by_cases c23 : a0_0 = 3
                · rw [if_pos c23] at H
                  have c23b0 : (a0_0 == 3) = true := beq_iff_eq.mpr c23
                  have c23b1 : (a0_0 != 3) = false := bne_eq_false_iff_eq.mpr c23
                  clear c23
                  by_cases c24 : x3_1 = true
                  · subst c24
                    have H1 : (some x4_6) = some r := by rw [if_pos rfl] at H; exact H
                    clear H
                    have H := H1
                    clear H1
                    obtain rfl := Option.some.inj H
                    have hcz25_0 : wc.cell? ⟨gb199, 0, none⟩ = some (.int .i64 a0_0) := (blk_cell BK199.out 0).trans rfl
                    have hcz25_1 : wc.cell? ⟨gb199, 1, none⟩ = some (.int .i64 a0_1) := (blk_cell BK199.out 1).trans rfl
                    have hcz25_2 : wc.cell? ⟨gb199, 2, none⟩ = some (.int .i64 a0_2) := (blk_cell BK199.out 2).trans rfl
                    have hfz25_0 := blk_frozen BK199.out 0
                    have hfz25_1 := blk_frozen BK199.out 1
                    have hfz25_2 := blk_frozen BK199.out 2
                    go_wp2
                    go_ret
                    exact ⟨by first | rfl | (simp [errW_none, errW_some] <;> rfl) | (simp [*, errW_none, errW_some] <;> rfl), by repeat (first | (with_reducible first | exact HB.out | apply below_alloc | apply pw_below_drewN | apply below_drew1 | refine below_set ?_ GE199.out) | exact HB.out)⟩
                  · replace c24 := Bool.eq_false_iff.mpr c24
                    subst c24
                    have H1 : (some false) = some r := by rw [if_neg (show ¬ (false = true) by decide)] at H; exact H
                    clear H
                    have H := H1
                    clear H1
                    obtain rfl := Option.some.inj H
                    have hcz26_0 : wc.cell? ⟨gb199, 0, none⟩ = some (.int .i64 a0_0) := (blk_cell BK199.out 0).trans rfl
                    have hcz26_1 : wc.cell? ⟨gb199, 1, none⟩ = some (.int .i64 a0_1) := (blk_cell BK199.out 1).trans rfl
                    have hcz26_2 : wc.cell? ⟨gb199, 2, none⟩ = some (.int .i64 a0_2) := (blk_cell BK199.out 2).trans rfl
                    have hfz26_0 := blk_frozen BK199.out 0
                    have hfz26_1 := blk_frozen BK199.out 1
                    have hfz26_2 := blk_frozen BK199.out 2
                    go_wp2
                    go_ret
                    exact ⟨by first | rfl | (simp [errW_none, errW_some] <;> rfl) | (simp [*, errW_none, errW_some] <;> rfl), by repeat (first | (with_reducible first | exact HB.out | apply below_alloc | apply pw_below_drewN | apply below_drew1 | refine below_set ?_ GE199.out) | exact HB.out)⟩
                · rw [if_neg c23] at H
                  have c23b0 : (a0_0 == 3) = false := beq_eq_false_iff_ne.mpr c23
                  have c23b1 : (a0_0 != 3) = true := bne_iff_ne.mpr c23
                  obtain rfl := Option.some.inj H
                  have hcz27_0 : wc.cell? ⟨gb199, 0, none⟩ = some (.int .i64 a0_0) := (blk_cell BK199.out 0).trans rfl
                  have hcz27_1 : wc.cell? ⟨gb199, 1, none⟩ = some (.int .i64 a0_1) := (blk_cell BK199.out 1).trans rfl
                  have hcz27_2 : wc.cell? ⟨gb199, 2, none⟩ = some (.int .i64 a0_2) := (blk_cell BK199.out 2).trans rfl
                  have hfz27_0 := blk_frozen BK199.out 0
                  have hfz27_1 := blk_frozen BK199.out 1
                  have hfz27_2 := blk_frozen BK199.out 2
                  go_wp2
                  go_ret
                  exact ⟨by first | rfl | (simp [errW_none, errW_some] <;> rfl) | (simp [*, errW_none, errW_some] <;> rfl), by repeat (first | (with_reducible first | exact HB.out | apply below_alloc | apply pw_below_drewN | apply below_drew1 | refine below_set ?_ GE199.out) | exact HB.out)⟩

end Go.Proofs.YtahpmeijinndhaaDoor.P

-- Written for this claim by a turned copy of the kit's print program (gprint_patch.py). Not trusted: Lean checks it.
namespace Go.Proofs.YtahpmeijinndhaaDoor.P
open Go.RowKit Go.Proofs.YtahpmeijinndhaaDoorW.PrintWords Go.Proofs.YtahpmeijinndhaaDoorW.PrintLast Go.Proofs.YtahpmeijinndhaaDoorW.PrintMore
attribute [local go_sem] max2_int min2_int max_two min_two max_three min_three max_four min_four   -- for this text's walks alone
set_option linter.unusedVariables false
set_option linter.unusedSimpArgs false

/-! ### noonmarkref06_names: function 23 -/
def noonmarkref06_names.f  : Option (List ByteArray) := some (([(⟨#[83, 117, 110]⟩ : ByteArray), (⟨#[77, 111, 110]⟩ : ByteArray), (⟨#[84, 117, 101]⟩ : ByteArray), (⟨#[87, 101, 100]⟩ : ByteArray), (⟨#[84, 104, 117]⟩ : ByteArray), (⟨#[70, 114, 105]⟩ : ByteArray), (⟨#[83, 97, 116]⟩ : ByteArray)] : List ByteArray))
set_option maxHeartbeats 8000000 in
set_option maxRecDepth 100000 in
theorem noonmarkref06_names.calls  (r : List ByteArray) (w : World) (hG : GOK w) (h : noonmarkref06_names.f  = some r) :
    Calls Tryd.prog 23 #[] w fun e w' => ∃ v0_ : Value, e = .returned (v0_) ∧ Kd.R Kd.string 9 w' w.heap.size (fun _ => True) v0_ r ∧ Below w.heap.size w w' := by
  have HB := Aside0.mk (Below.refl w.heap.size w)
  have H : (some (([(⟨#[83, 117, 110]⟩ : ByteArray), (⟨#[77, 111, 110]⟩ : ByteArray), (⟨#[84, 117, 101]⟩ : ByteArray), (⟨#[87, 101, 100]⟩ : ByteArray), (⟨#[84, 104, 117]⟩ : ByteArray), (⟨#[70, 114, 105]⟩ : ByteArray), (⟨#[83, 97, 116]⟩ : ByteArray)] : List ByteArray))) = some r := h
  clear h
  obtain ⟨y158, hy158⟩ : ∃ y_ : List ByteArray, y_ = (([(⟨#[83, 117, 110]⟩ : ByteArray), (⟨#[77, 111, 110]⟩ : ByteArray), (⟨#[84, 117, 101]⟩ : ByteArray), (⟨#[87, 101, 100]⟩ : ByteArray), (⟨#[84, 104, 117]⟩ : ByteArray), (⟨#[70, 114, 105]⟩ : ByteArray), (⟨#[83, 97, 116]⟩ : ByteArray)] : List ByteArray)) := ⟨_, rfl⟩
  replace H : (some y158) = some r := by first | (rw [hy158]; with_reducible exact H) | (have H2_ := (Option.bind_some _ _).symm.trans H; rw [hy158]; with_reducible exact H2_) | (have H2_ := (Option.bind_some _ _).symm.trans H; with_reducible exact H2_) | with_reducible exact H | (rw [hy158]; exact H) | exact H
  have Ny158 := Aside0.mk hy158
  clear hy158
  obtain rfl := Option.some.inj H
  go_enter Tryd.func23, Tryd.ntmps23
  go_wp2_with (first | ((with_reducible refine gate_dst (N := 1) rfl ?_); refine Kd.R_lit Kd.string _ 9 ?hg (N := 1) ?hd (xs := ([(⟨#[83, 117, 110]⟩ : ByteArray), (⟨#[77, 111, 110]⟩ : ByteArray), (⟨#[84, 117, 101]⟩ : ByteArray), (⟨#[87, 101, 100]⟩ : ByteArray), (⟨#[84, 104, 117]⟩ : ByteArray), (⟨#[70, 114, 105]⟩ : ByteArray), (⟨#[83, 97, 116]⟩ : ByteArray)] : List ByteArray)) (inner := [.string (⟨#[83, 117, 110]⟩ : ByteArray), .string (⟨#[77, 111, 110]⟩ : ByteArray), .string (⟨#[84, 117, 101]⟩ : ByteArray), .string (⟨#[87, 101, 100]⟩ : ByteArray), .string (⟨#[84, 104, 117]⟩ : ByteArray), .string (⟨#[70, 114, 105]⟩ : ByteArray), .string (⟨#[83, 97, 116]⟩ : ByteArray)]) (ok := fun _ => True) (okp := fun _ => True) ?hr ?hp (fun _ hk => hk) trivial (Below.refl _ _) (Nat.le_refl _) (by simp) ?_; (case hd => rfl); (case hg => rfl); (case hr => first | (go_simp; done) | (go_simp; rfl)); (case hp => exact (Reps.one (show Kd.M Kd.string _ _ _ (⟨#[83, 117, 110]⟩ : ByteArray) [.string (⟨#[83, 117, 110]⟩ : ByteArray)] from rfl) (Reps.one (show Kd.M Kd.string _ _ _ (⟨#[77, 111, 110]⟩ : ByteArray) [.string (⟨#[77, 111, 110]⟩ : ByteArray)] from rfl) (Reps.one (show Kd.M Kd.string _ _ _ (⟨#[84, 117, 101]⟩ : ByteArray) [.string (⟨#[84, 117, 101]⟩ : ByteArray)] from rfl) (Reps.one (show Kd.M Kd.string _ _ _ (⟨#[87, 101, 100]⟩ : ByteArray) [.string (⟨#[87, 101, 100]⟩ : ByteArray)] from rfl) (Reps.one (show Kd.M Kd.string _ _ _ (⟨#[84, 104, 117]⟩ : ByteArray) [.string (⟨#[84, 104, 117]⟩ : ByteArray)] from rfl) (Reps.one (show Kd.M Kd.string _ _ _ (⟨#[70, 114, 105]⟩ : ByteArray) [.string (⟨#[70, 114, 105]⟩ : ByteArray)] from rfl) (Reps.one (show Kd.M Kd.string _ _ _ (⟨#[83, 97, 116]⟩ : ByteArray) [.string (⟨#[83, 97, 116]⟩ : ByteArray)] from rfl) (Reps.none _ _))))))))); intro v159 w1 ho2 hb hg_ hnew_; clear hg_ hnew_; (first | rw [← Ny158.out] at ho2 | (simp only [Int.reduceToNat] at ho2; rw [← Ny158.out] at ho2)); have n0_ := Aside0.mk (Kd.R_lower ho2 (below_size (by repeat (first | (with_reducible first | exact HB.out | apply below_alloc | apply pw_below_drewN | apply below_drew1) | exact HB.out)))); have n1_ := Aside0.mk (below_step (by repeat (first | (with_reducible first | exact HB.out | apply below_alloc | apply pw_below_drewN | apply below_drew1) | exact HB.out)) hb); clear HB; have HO160 := n0_; have HB := n1_; clear n0_ n1_; clear hb ho2))
  go_ret
  exact ⟨_, by first | rfl | (simp [errW_none, errW_some] <;> rfl) | (simp [*, errW_none, errW_some] <;> rfl), by (with_reducible repeat (first | apply Kd.R_alloc | apply Kd.R_drewN | apply Kd.R_drew)); exact HO160.out, by repeat (first | (with_reducible first | exact HB.out | apply below_alloc | apply pw_below_drewN | apply below_drew1) | exact HB.out)⟩

end Go.Proofs.YtahpmeijinndhaaDoor.P

/-
  noonmarkref06.Show: a day's text, as the document has it.
-/
namespace Go.Proofs.YtahpmeijinndhaaDoor.P
open Go.RowKit Go.Proofs.YtahpmeijinndhaaDoorW.PrintWords
set_option linter.unusedVariables false

def names06 : List ByteArray := [⟨#[83, 117, 110]⟩, ⟨#[77, 111, 110]⟩, ⟨#[84, 117, 101]⟩, ⟨#[87, 101, 100]⟩, ⟨#[84, 104, 117]⟩, ⟨#[70, 114, 105]⟩, ⟨#[83, 97, 116]⟩]
def noonmarkref06_Show.f (k : Nat) (a b c : Int) : Option (ByteArray × Int) :=
  (noonmarkref06_Right.f k a b c).bind fun t => if t = true then
    (noonmarkref02_Int.f k b).bind fun n =>
      if 0 ≤ c ∧ c < 7 ∧ n.size ≤ 1000 then
        (if a = 1 then some ((⟨#[108, 97, 115, 116]⟩ : ByteArray) ++ rdOf ByteArray.empty names06 c, 0)
         else if a = 2 then some (rdOf ByteArray.empty names06 c ++ (⟨#[62, 61]⟩ : ByteArray) ++ n, 0)
         else if a = 3 then some (rdOf ByteArray.empty names06 c ++ (⟨#[60, 61]⟩ : ByteArray) ++ n, 0)
         else some (n, 0))
      else none
  else some (⟨#[]⟩, 1)
theorem noonmarkref06_Show.mono : ∀ a0 a1 a2 k, LeO (noonmarkref06_Show.f k a0 a1 a2) (noonmarkref06_Show.f (k + 1) a0 a1 a2) := by
  intro a b c k
  unfold noonmarkref06_Show.f
  refine LeO.bind (noonmarkref06_Right.mono a b c k) (fun t => LeO.ite (LeO.bind (noonmarkref02_Int.mono b k) (fun n => LeO.refl _)) (LeO.refl _))

theorem name06_size (c : Int) : (rdOf ByteArray.empty names06 c).size ≤ 3 := by
  unfold rdOf
  generalize c.toNat = n
  match n with
  | 0 | 1 | 2 | 3 | 4 | 5 | 6 => decide
  | n + 7 => exact Nat.zero_le _
theorem bcell {W w1 : World} {B : Nat} (hb : Below B W w1) : (∀ b o, b < B → w1.cell? ⟨b, o, none⟩ = W.cell? ⟨b, o, none⟩) ∧ (∀ b o, b < B → w1.frozen? ⟨b, o, none⟩ = W.frozen? ⟨b, o, none⟩) :=
  ⟨fun b o h => hb.cell (p := ⟨b, o, none⟩) h, fun b o h => hb.frozen (p := ⟨b, o, none⟩) h⟩

set_option maxHeartbeats 8000000 in
set_option maxRecDepth 100000 in
theorem noonmarkref06_Show.one (k : Nat) (b c : Int) (n : ByteArray) (w : World) (hG : GOK w) (h0 : 0 ≤ c) (h1 : c < 7) (hz : n.size ≤ 1000) (hr : Aside0 (noonmarkref06_Right.f k 1 b c = some true)) (hn : Aside0 (noonmarkref02_Int.f k b = some n)) :
    Calls Tryd.prog 9 #[.agg #[.int .i64 1, .int .i64 b, .int .i64 c]] w fun e w' => e = .returned (.tuple #[.string ((⟨#[108, 97, 115, 116]⟩ : ByteArray) ++ rdOf ByteArray.empty names06 c), .int .i64 0]) ∧ Below w.heap.size w w' := by
  have c9 : 4 + (rdOf ByteArray.empty names06 c).size ≤ 9223372036854775807 := by have := name06_size c; omega
  have c9b0 := eq_true c9
  have c9b1 : decide (4 + (rdOf ByteArray.empty names06 c).size ≤ 9223372036854775807) = true := decide_eq_true c9
  have c9b2 : (9223372036854775807 < 4 + (rdOf ByteArray.empty names06 c).size) = False := eq_false (Nat.not_lt.2 c9)
  clear c9
  have h7 : c < (names06.length : Int) := h1
  go_enter Tryd.func9, Tryd.ntmps9
  go_wp2_with (fail)
  refine (noonmarkref06_Right.calls k 1 b c true _ ?_ hr.out).mono ?_
  · exact (hG.alloc _)
  rintro e w1 ⟨rfl, hb1⟩
  obtain ⟨hc1, hf1⟩ := bcell hb1
  have hz1 : w.heap.size < w1.heap.size := by have := hb1.size; simp at this; omega
  go_wp2_with (fail)
  refine (noonmarkref02_Int.calls k b n _ ?_ hn.out).mono ?_
  · exact (hG.alloc _).below hb1
  rintro e w2 ⟨rfl, hb2⟩
  have hb2' : Below (w.heap.size + 1) w1 w2 := hb2.mono (by omega)
  obtain ⟨hc2, hf2⟩ := bcell hb2'
  have hz2 : w.heap.size < w2.heap.size := by have := hb2.size; omega
  have HB := Aside0.mk (((below_alloc (Below.refl w.heap.size w) (.cells #[.int .i64 1, .int .i64 b, .int .i64 c] 23)).trans (hb1.mono (by simp))).trans (hb2.mono (by omega)))
  go_wp2_with (fail)
  have HD := Aside0.mk HB.out.drew
  have hG2 := Aside0.mk (((hG.alloc (.cells #[.int .i64 1, .int .i64 b, .int .i64 c] 23)).below hb1).below hb2).drew
  go_region_with (go_at_call 23; refine (noonmarkref06_names.calls names06 _ hG2.out rfl).mono ?_; rintro e w3 ⟨v0, rfl, hR, hb3⟩; obtain ⟨hc3, hf3⟩ := bcell (B := w.heap.size + 1) (hb3.mono (by simp; omega)); obtain ⟨A0, cc, rfl, hl, hC⟩ := Kd.R_reads hR; obtain ⟨ad, rfl, hcell⟩ := Kd.at_string hC c h0 h1)
  all_goals
    go_wp2
    go_ret2
    exact ⟨rfl, HD.out.trans (hb3.mono (by simp; omega))⟩

set_option maxHeartbeats 8000000 in
set_option maxRecDepth 100000 in
theorem noonmarkref06_Show.two (k : Nat) (b c : Int) (n : ByteArray) (w : World) (hG : GOK w) (h0 : 0 ≤ c) (h1 : c < 7) (hz : n.size ≤ 1000) (hr : Aside0 (noonmarkref06_Right.f k 2 b c = some true)) (hn : Aside0 (noonmarkref02_Int.f k b = some n)) :
    Calls Tryd.prog 9 #[.agg #[.int .i64 2, .int .i64 b, .int .i64 c]] w fun e w' => e = .returned (.tuple #[.string (rdOf ByteArray.empty names06 c ++ (⟨#[62, 61]⟩ : ByteArray) ++ n), .int .i64 0]) ∧ Below w.heap.size w w' := by
  have c8 : (rdOf ByteArray.empty names06 c).size + 2 ≤ 9223372036854775807 := by have := name06_size c; omega
  have c9 : (rdOf ByteArray.empty names06 c ++ (⟨#[62, 61]⟩ : ByteArray)).size + n.size ≤ 9223372036854775807 := by have := name06_size c; rw [ByteArray.size_append]; have : (⟨#[62, 61]⟩ : ByteArray).size = 2 := rfl; omega
  have c7 : (rdOf ByteArray.empty names06 c).size + 2 + n.size ≤ 9223372036854775807 := by have := name06_size c; omega
  have c7b0 := eq_true c7
  have c7b1 : decide ((rdOf ByteArray.empty names06 c).size + 2 + n.size ≤ 9223372036854775807) = true := decide_eq_true c7
  have c7b2 : (9223372036854775807 < (rdOf ByteArray.empty names06 c).size + 2 + n.size) = False := eq_false (Nat.not_lt.2 c7)
  clear c7
  have c8b0 := eq_true c8
  have c8b1 : decide ((rdOf ByteArray.empty names06 c).size + 2 ≤ 9223372036854775807) = true := decide_eq_true c8
  have c8b2 : (9223372036854775807 < (rdOf ByteArray.empty names06 c).size + 2) = False := eq_false (Nat.not_lt.2 c8)
  have c9b0 := eq_true c9
  have c9b1 : decide ((rdOf ByteArray.empty names06 c ++ (⟨#[62, 61]⟩ : ByteArray)).size + n.size ≤ 9223372036854775807) = true := decide_eq_true c9
  have c9b2 : (9223372036854775807 < (rdOf ByteArray.empty names06 c ++ (⟨#[62, 61]⟩ : ByteArray)).size + n.size) = False := eq_false (Nat.not_lt.2 c9)
  clear c8 c9 hz
  have h7 : c < (names06.length : Int) := h1
  go_enter Tryd.func9, Tryd.ntmps9
  go_wp2_with (fail)
  refine (noonmarkref06_Right.calls k 2 b c true _ ?_ hr.out).mono ?_
  · exact (hG.alloc _)
  rintro e w1 ⟨rfl, hb1⟩
  obtain ⟨hc1, hf1⟩ := bcell hb1
  have hz1 : w.heap.size < w1.heap.size := by have := hb1.size; simp at this; omega
  go_wp2_with (fail)
  refine (noonmarkref02_Int.calls k b n _ ?_ hn.out).mono ?_
  · exact (hG.alloc _).below hb1
  rintro e w2 ⟨rfl, hb2⟩
  have hb2' : Below (w.heap.size + 1) w1 w2 := hb2.mono (by omega)
  obtain ⟨hc2, hf2⟩ := bcell hb2'
  have hz2 : w.heap.size < w2.heap.size := by have := hb2.size; omega
  have HB := Aside0.mk (((below_alloc (Below.refl w.heap.size w) (.cells #[.int .i64 2, .int .i64 b, .int .i64 c] 23)).trans (hb1.mono (by simp))).trans (hb2.mono (by omega)))
  go_wp2_with (fail)
  have HD := Aside0.mk HB.out.drew
  have hG2 := Aside0.mk (((hG.alloc (.cells #[.int .i64 2, .int .i64 b, .int .i64 c] 23)).below hb1).below hb2).drew
  go_region_with (go_at_call 23; refine (noonmarkref06_names.calls names06 _ hG2.out rfl).mono ?_; rintro e w3 ⟨v0, rfl, hR, hb3⟩; obtain ⟨hc3, hf3⟩ := bcell (B := w.heap.size + 1) (hb3.mono (by simp; omega)); obtain ⟨A0, cc, rfl, hl, hC⟩ := Kd.R_reads hR; obtain ⟨ad, rfl, hcell⟩ := Kd.at_string hC c h0 h1)
  all_goals
    go_wp2
    go_ret2
    exact ⟨rfl, HD.out.trans (hb3.mono (by simp; omega))⟩

set_option maxHeartbeats 8000000 in
set_option maxRecDepth 100000 in
theorem noonmarkref06_Show.three (k : Nat) (b c : Int) (n : ByteArray) (w : World) (hG : GOK w) (h0 : 0 ≤ c) (h1 : c < 7) (hz : n.size ≤ 1000) (hr : Aside0 (noonmarkref06_Right.f k 3 b c = some true)) (hn : Aside0 (noonmarkref02_Int.f k b = some n)) :
    Calls Tryd.prog 9 #[.agg #[.int .i64 3, .int .i64 b, .int .i64 c]] w fun e w' => e = .returned (.tuple #[.string (rdOf ByteArray.empty names06 c ++ (⟨#[60, 61]⟩ : ByteArray) ++ n), .int .i64 0]) ∧ Below w.heap.size w w' := by
  have c8 : (rdOf ByteArray.empty names06 c).size + 2 ≤ 9223372036854775807 := by have := name06_size c; omega
  have c9 : (rdOf ByteArray.empty names06 c ++ (⟨#[60, 61]⟩ : ByteArray)).size + n.size ≤ 9223372036854775807 := by have := name06_size c; rw [ByteArray.size_append]; have : (⟨#[60, 61]⟩ : ByteArray).size = 2 := rfl; omega
  have c7 : (rdOf ByteArray.empty names06 c).size + 2 + n.size ≤ 9223372036854775807 := by have := name06_size c; omega
  have c7b0 := eq_true c7
  have c7b1 : decide ((rdOf ByteArray.empty names06 c).size + 2 + n.size ≤ 9223372036854775807) = true := decide_eq_true c7
  have c7b2 : (9223372036854775807 < (rdOf ByteArray.empty names06 c).size + 2 + n.size) = False := eq_false (Nat.not_lt.2 c7)
  clear c7
  have c8b0 := eq_true c8
  have c8b1 : decide ((rdOf ByteArray.empty names06 c).size + 2 ≤ 9223372036854775807) = true := decide_eq_true c8
  have c8b2 : (9223372036854775807 < (rdOf ByteArray.empty names06 c).size + 2) = False := eq_false (Nat.not_lt.2 c8)
  have c9b0 := eq_true c9
  have c9b1 : decide ((rdOf ByteArray.empty names06 c ++ (⟨#[60, 61]⟩ : ByteArray)).size + n.size ≤ 9223372036854775807) = true := decide_eq_true c9
  have c9b2 : (9223372036854775807 < (rdOf ByteArray.empty names06 c ++ (⟨#[60, 61]⟩ : ByteArray)).size + n.size) = False := eq_false (Nat.not_lt.2 c9)
  clear c8 c9 hz
  have h7 : c < (names06.length : Int) := h1
  go_enter Tryd.func9, Tryd.ntmps9
  go_wp2_with (fail)
  refine (noonmarkref06_Right.calls k 3 b c true _ ?_ hr.out).mono ?_
  · exact (hG.alloc _)
  rintro e w1 ⟨rfl, hb1⟩
  obtain ⟨hc1, hf1⟩ := bcell hb1
  have hz1 : w.heap.size < w1.heap.size := by have := hb1.size; simp at this; omega
  go_wp2_with (fail)
  refine (noonmarkref02_Int.calls k b n _ ?_ hn.out).mono ?_
  · exact (hG.alloc _).below hb1
  rintro e w2 ⟨rfl, hb2⟩
  have hb2' : Below (w.heap.size + 1) w1 w2 := hb2.mono (by omega)
  obtain ⟨hc2, hf2⟩ := bcell hb2'
  have hz2 : w.heap.size < w2.heap.size := by have := hb2.size; omega
  have HB := Aside0.mk (((below_alloc (Below.refl w.heap.size w) (.cells #[.int .i64 3, .int .i64 b, .int .i64 c] 23)).trans (hb1.mono (by simp))).trans (hb2.mono (by omega)))
  go_wp2_with (fail)
  have HD := Aside0.mk HB.out.drew
  have hG2 := Aside0.mk (((hG.alloc (.cells #[.int .i64 3, .int .i64 b, .int .i64 c] 23)).below hb1).below hb2).drew
  go_region_with (go_at_call 23; refine (noonmarkref06_names.calls names06 _ hG2.out rfl).mono ?_; rintro e w3 ⟨v0, rfl, hR, hb3⟩; obtain ⟨hc3, hf3⟩ := bcell (B := w.heap.size + 1) (hb3.mono (by simp; omega)); obtain ⟨A0, cc, rfl, hl, hC⟩ := Kd.R_reads hR; obtain ⟨ad, rfl, hcell⟩ := Kd.at_string hC c h0 h1)
  all_goals
    go_wp2
    go_ret2
    exact ⟨rfl, HD.out.trans (hb3.mono (by simp; omega))⟩

set_option maxHeartbeats 8000000 in
set_option maxRecDepth 100000 in
theorem noonmarkref06_Show.other (k : Nat) (a b c : Int) (n : ByteArray) (w : World) (hG : GOK w) (ha : ¬ a = 1) (ha2 : ¬ a = 2) (ha3 : ¬ a = 3) (hr : Aside0 (noonmarkref06_Right.f k a b c = some true)) (hn : Aside0 (noonmarkref02_Int.f k b = some n)) :
    Calls Tryd.prog 9 #[.agg #[.int .i64 a, .int .i64 b, .int .i64 c]] w fun e w' => e = .returned (.tuple #[.string n, .int .i64 0]) ∧ Below w.heap.size w w' := by
  have e1 : (a == 1) = false := beq_eq_false_iff_ne.mpr ha
  have e2 : (a == 2) = false := beq_eq_false_iff_ne.mpr ha2
  have e3 : (a == 3) = false := beq_eq_false_iff_ne.mpr ha3
  clear ha ha2 ha3
  go_enter Tryd.func9, Tryd.ntmps9
  go_wp2_with (fail)
  refine (noonmarkref06_Right.calls k a b c true _ ?_ hr.out).mono ?_
  · exact (hG.alloc _)
  rintro e w1 ⟨rfl, hb1⟩
  obtain ⟨hc1, hf1⟩ := bcell hb1
  have hz1 : w.heap.size < w1.heap.size := by have := hb1.size; simp at this; omega
  go_wp2_with (fail)
  refine (noonmarkref02_Int.calls k b n _ ?_ hn.out).mono ?_
  · exact (hG.alloc _).below hb1
  rintro e w2 ⟨rfl, hb2⟩
  have hb2' : Below (w.heap.size + 1) w1 w2 := hb2.mono (by omega)
  obtain ⟨hc2, hf2⟩ := bcell hb2'
  have hz2 : w.heap.size < w2.heap.size := by have := hb2.size; omega
  have HB := Aside0.mk (((below_alloc (Below.refl w.heap.size w) (.cells #[.int .i64 a, .int .i64 b, .int .i64 c] 23)).trans (hb1.mono (by simp))).trans (hb2.mono (by omega)))
  go_wp2
  go_ret2
  exact ⟨rfl, HB.out⟩

set_option maxHeartbeats 8000000 in
set_option maxRecDepth 100000 in
theorem noonmarkref06_Show.calls (k : Nat) (a b c : Int) (r1 : ByteArray) (r2 : Int) (w : World) (hG : GOK w) (h : noonmarkref06_Show.f k a b c = some (r1, r2)) :
    Calls Tryd.prog 9 #[.agg #[.int .i64 a, .int .i64 b, .int .i64 c]] w fun e w' => e = .returned (.tuple #[.string r1, .int .i64 r2]) ∧ Below w.heap.size w w' := by
  have h' := h
  unfold noonmarkref06_Show.f at h'
  obtain ⟨t, ht, h'⟩ := Option.bind_eq_some_iff.1 h'
  cases t with
  | true =>
    simp only [if_true] at h'
    obtain ⟨n, hn, h'⟩ := Option.bind_eq_some_iff.1 h'
    by_cases hc : 0 ≤ c ∧ c < 7 ∧ n.size ≤ 1000
    · clear h'
      by_cases h1 : a = 1
      · subst h1
        have e : noonmarkref06_Show.f k 1 b c = some ((⟨#[108, 97, 115, 116]⟩ : ByteArray) ++ rdOf ByteArray.empty names06 c, 0) := by simp [noonmarkref06_Show.f, ht, hn, hc]
        rw [e] at h
        simp only [Option.some.injEq, Prod.mk.injEq] at h
        obtain ⟨rfl, rfl⟩ := h
        exact noonmarkref06_Show.one k b c n w hG hc.1 hc.2.1 hc.2.2 ⟨ht⟩ ⟨hn⟩
      by_cases h2 : a = 2
      · subst h2
        have e : noonmarkref06_Show.f k 2 b c = some (rdOf ByteArray.empty names06 c ++ (⟨#[62, 61]⟩ : ByteArray) ++ n, 0) := by simp [noonmarkref06_Show.f, ht, hn, hc]
        rw [e] at h
        simp only [Option.some.injEq, Prod.mk.injEq] at h
        obtain ⟨rfl, rfl⟩ := h
        exact noonmarkref06_Show.two k b c n w hG hc.1 hc.2.1 hc.2.2 ⟨ht⟩ ⟨hn⟩
      by_cases h3 : a = 3
      · subst h3
        have e : noonmarkref06_Show.f k 3 b c = some (rdOf ByteArray.empty names06 c ++ (⟨#[60, 61]⟩ : ByteArray) ++ n, 0) := by simp [noonmarkref06_Show.f, ht, hn, hc]
        rw [e] at h
        simp only [Option.some.injEq, Prod.mk.injEq] at h
        obtain ⟨rfl, rfl⟩ := h
        exact noonmarkref06_Show.three k b c n w hG hc.1 hc.2.1 hc.2.2 ⟨ht⟩ ⟨hn⟩
      have e : noonmarkref06_Show.f k a b c = some (n, 0) := by simp [noonmarkref06_Show.f, ht, hn, hc, h1, h2, h3]
      rw [e] at h
      simp only [Option.some.injEq, Prod.mk.injEq] at h
      obtain ⟨rfl, rfl⟩ := h
      exact noonmarkref06_Show.other k a b c n w hG h1 h2 h3 ⟨ht⟩ ⟨hn⟩
    · rw [if_neg hc] at h'
      cases h'
  | false =>
    have e : noonmarkref06_Show.f k a b c = some (⟨#[]⟩, 1) := by simp [noonmarkref06_Show.f, ht]
    rw [e] at h
    simp only [Option.some.injEq, Prod.mk.injEq] at h
    obtain ⟨rfl, rfl⟩ := h
    go_enter Tryd.func9, Tryd.ntmps9
    go_wp2_with (fail)
    refine (noonmarkref06_Right.calls k a b c false _ ?_ ht).mono ?_
    · exact (hG.alloc _)
    rintro e w1 ⟨rfl, hb1⟩
    have HB := Aside0.mk ((below_alloc (Below.refl w.heap.size w) (.cells #[.int .i64 a, .int .i64 b, .int .i64 c] 23)).trans (hb1.mono (by simp)))
    go_wp2
    go_ret2
    exact ⟨rfl, HB.out⟩
end Go.Proofs.YtahpmeijinndhaaDoor.P

/-
  Plain laws of strings.HasPrefix and strings.CutPrefix.
-/
namespace Go.Proofs.YtahpmeijinndhaaDoor.P
open Go.RowKit Go.Proofs.YtahpmeijinndhaaDoorW.PrintWords
set_option linter.unusedVariables false

theorem stringslite_HasPrefix_eq (s p : ByteArray) : stringslite_HasPrefix.f s p = some (decide ((lst s).take (lst p).length = lst p)) := by
  have hl := lst_len s
  have hp := lst_len p
  unfold stringslite_HasPrefix.f
  by_cases h : (s.size : Int) ≥ (p.size : Int)
  · rw [if_pos h, if_pos (by omega), if_pos (by omega)]
    congr 1
    rw [Bool.eq_iff_iff, decide_eq_true_iff, beq_iff_eq, toList_lst, toList_lst, lst_extract, Int.toNat_natCast, hp]
    simp
  · rw [if_neg h]
    congr 1
    symm
    rw [decide_eq_false_iff_not]
    intro e
    have := congrArg List.length e
    rw [List.length_take] at this
    omega
theorem strings_CutPrefix_eq (s p : ByteArray) : ∃ r b, strings_CutPrefix.f s p = some (r, b) ∧ (b = decide ((lst s).take (lst p).length = lst p)) ∧ (b = true → lst r = (lst s).drop (lst p).length) ∧ (b = false → r = s) := by
  have hl := lst_len s
  have hp := lst_len p
  unfold strings_CutPrefix.f stringslite_CutPrefix.f
  rw [stringslite_HasPrefix_eq]
  simp only [Option.bind_some]
  by_cases h : (lst s).take (lst p).length = lst p
  · have hle : p.size ≤ s.size := by
      have := congrArg List.length h
      rw [List.length_take] at this
      omega
    rw [decide_eq_true h, if_pos rfl, if_pos (by omega), if_pos (by omega)]
    exact ⟨_, _, rfl, rfl, (fun _ => by rw [lst_from, Int.toNat_natCast, hp]), (fun h => by cases h)⟩
  · rw [decide_eq_false h, if_neg (by decide)]
    exact ⟨_, _, rfl, rfl, (fun h => by cases h), (fun _ => rfl)⟩
end Go.Proofs.YtahpmeijinndhaaDoor.P

-- Written for this claim by a turned copy of the kit's print program (gprint_patch.py). Not trusted: Lean checks it.
namespace Go.Proofs.YtahpmeijinndhaaDoor.P
open Go.RowKit Go.Proofs.YtahpmeijinndhaaDoorW.PrintWords Go.Proofs.YtahpmeijinndhaaDoorW.PrintLast Go.Proofs.YtahpmeijinndhaaDoorW.PrintMore
attribute [local go_sem] max2_int min2_int max_two min_two max_three min_three max_four min_four   -- for this text's walks alone
set_option linter.unusedVariables false
set_option linter.unusedSimpArgs false

/-! ### noonmarkref06_number: function 16 -/
def noonmarkref06_number.f (k : Nat) (a0 : ByteArray) : Option (Int) := (noonmarkref02_ParseInt.f k a0).bind fun bt156 => (if bt156.2 = 0 then (if bt156.1 < 1 then (some 0) else (if bt156.1 > 31 then (some 0) else (some bt156.1))) else (some 0))
theorem noonmarkref06_number.mono : ∀ a0 k, LeO (noonmarkref06_number.f k a0) (noonmarkref06_number.f (k + 1) a0) := by
  intro a0 k
  unfold noonmarkref06_number.f
  repeat' first
      | (with_reducible exact noonmarkref02_ParseInt.mono _ _)
      | (with_reducible exact LeO.refl _)
      | (with_reducible exact LeO.none _)
      | (with_reducible refine LeO.ite ?_ ?_)
      | (with_reducible refine LeO.bind ?_ (fun _ => ?_))
      | exact noonmarkref02_ParseInt.mono _ _
      | exact LeO.none _
      | refine LeO.ite ?_ ?_
      | refine LeO.bind ?_ (fun _ => ?_)
set_option maxHeartbeats 8000000 in
set_option maxRecDepth 100000 in
theorem noonmarkref06_number.calls (k : Nat) (a0 : ByteArray) (r : Int) (w : World) (hG : GOK w) (h : noonmarkref06_number.f k a0 = some r) :
    Calls Tryd.prog 16 #[.string a0] w fun e w' => e = .returned (.int .i64 r) ∧ Drawn0 w w' := by
  have H : ((noonmarkref02_ParseInt.f k a0).bind fun bt156 => (if bt156.2 = 0 then (if bt156.1 < 1 then (some 0) else (if bt156.1 > 31 then (some 0) else (some bt156.1))) else (some 0))) = some r := h
  clear h
  replace H := Option.bind_eq_some_iff.mp H
  obtain ⟨⟨t156, t157⟩, A20, H⟩ := H
  replace H : (if t157 = 0 then (if t156 < 1 then (some 0) else (if t156 > 31 then (some 0) else (some t156))) else (some 0)) = some r := H
  have A2 := Aside0.mk A20
  clear A20
  by_cases c3 : t157 = 0
  · rw [if_pos c3] at H
    have c3b0 : (t157 == 0) = true := beq_iff_eq.mpr c3
    have c3b1 : (t157 != 0) = false := bne_eq_false_iff_eq.mpr c3
    clear c3
    by_cases c4 : t156 < 1
    · rw [if_pos c4] at H
      have c4b0 : decide (t156 < 1) = true := decide_eq_true c4
      clear c4
      obtain rfl := Option.some.inj H
      go_enter Tryd.func16, Tryd.ntmps16
      go_wp2_with (first | ((with_reducible refine gate_callee (f := 31) rfl ?_); refine goesL_ (some 7) rfl rfl Tryd.func31 (by kernel_rfl) rfl #[.string a0] rfl (by (try simp only [List.map_toArray, List.map_cons, List.map_nil]); first | done | rfl | (simp only [List.length_drop, List.length_take]; rfl)) ?_; (with_reducible refine (noonmarkref02_ParseInt.calls k a0 t156 t157 _ ?side1 A2.out).mono ?_); (case side1 => first | exact hG | (repeat (first | exact hG | refine GOK.drewN ?_ _ | refine GOK.drew ?_))); rintro e w' ⟨rfl, ⟨nd, rfl⟩⟩; refine ⟨_, rfl, ?_⟩))
      go_ret
      exact ⟨by first | rfl | (simp; done) | (simp [*]; done), by repeat (first | exact Drawn0.refl _ | apply Drawn0.step)⟩
    · rw [if_neg c4] at H
      have c4b0 : decide (t156 < 1) = false := decide_eq_false c4
      clear c4
      by_cases c5 : t156 > 31
      · rw [if_pos c5] at H
        have c5b0 : decide (31 < t156) = true := decide_eq_true c5
        clear c5
        obtain rfl := Option.some.inj H
        go_enter Tryd.func16, Tryd.ntmps16
        go_wp2_with (first | ((with_reducible refine gate_callee (f := 31) rfl ?_); refine goesL_ (some 7) rfl rfl Tryd.func31 (by kernel_rfl) rfl #[.string a0] rfl (by (try simp only [List.map_toArray, List.map_cons, List.map_nil]); first | done | rfl | (simp only [List.length_drop, List.length_take]; rfl)) ?_; (with_reducible refine (noonmarkref02_ParseInt.calls k a0 t156 t157 _ ?side1 A2.out).mono ?_); (case side1 => first | exact hG | (repeat (first | exact hG | refine GOK.drewN ?_ _ | refine GOK.drew ?_))); rintro e w' ⟨rfl, ⟨nd, rfl⟩⟩; refine ⟨_, rfl, ?_⟩))
        go_ret
        exact ⟨by first | rfl | (simp; done) | (simp [*]; done), by repeat (first | exact Drawn0.refl _ | apply Drawn0.step)⟩
      · rw [if_neg c5] at H
        have c5b0 : decide (31 < t156) = false := decide_eq_false c5
        clear c5
        obtain rfl := Option.some.inj H
        go_enter Tryd.func16, Tryd.ntmps16
        go_wp2_with (first | ((with_reducible refine gate_callee (f := 31) rfl ?_); refine goesL_ (some 7) rfl rfl Tryd.func31 (by kernel_rfl) rfl #[.string a0] rfl (by (try simp only [List.map_toArray, List.map_cons, List.map_nil]); first | done | rfl | (simp only [List.length_drop, List.length_take]; rfl)) ?_; (with_reducible refine (noonmarkref02_ParseInt.calls k a0 t156 t157 _ ?side1 A2.out).mono ?_); (case side1 => first | exact hG | (repeat (first | exact hG | refine GOK.drewN ?_ _ | refine GOK.drew ?_))); rintro e w' ⟨rfl, ⟨nd, rfl⟩⟩; refine ⟨_, rfl, ?_⟩))
        go_ret
        exact ⟨by first | rfl | (simp; done) | (simp [*]; done), by repeat (first | exact Drawn0.refl _ | apply Drawn0.step)⟩
  · rw [if_neg c3] at H
    have c3b0 : (t157 == 0) = false := beq_eq_false_iff_ne.mpr c3
    have c3b1 : (t157 != 0) = true := bne_iff_ne.mpr c3
    obtain rfl := Option.some.inj H
    go_enter Tryd.func16, Tryd.ntmps16
    go_wp2_with (first | ((with_reducible refine gate_callee (f := 31) rfl ?_); refine goesL_ (some 7) rfl rfl Tryd.func31 (by kernel_rfl) rfl #[.string a0] rfl (by (try simp only [List.map_toArray, List.map_cons, List.map_nil]); first | done | rfl | (simp only [List.length_drop, List.length_take]; rfl)) ?_; (with_reducible refine (noonmarkref02_ParseInt.calls k a0 t156 t157 _ ?side1 A2.out).mono ?_); (case side1 => first | exact hG | (repeat (first | exact hG | refine GOK.drewN ?_ _ | refine GOK.drew ?_))); rintro e w' ⟨rfl, ⟨nd, rfl⟩⟩; refine ⟨_, rfl, ?_⟩))
    go_ret
    exact ⟨by first | rfl | (simp; done) | (simp [*]; done), by repeat (first | exact Drawn0.refl _ | apply Drawn0.step)⟩

end Go.Proofs.YtahpmeijinndhaaDoor.P

-- Written for this claim by a turned copy of the kit's print program (gprint_patch.py). Not trusted: Lean checks it.
namespace Go.Proofs.YtahpmeijinndhaaDoor.P
open Go.RowKit Go.Proofs.YtahpmeijinndhaaDoorW.PrintWords Go.Proofs.YtahpmeijinndhaaDoorW.PrintLast Go.Proofs.YtahpmeijinndhaaDoorW.PrintMore
attribute [local go_sem] max2_int min2_int max_two min_two max_three min_three max_four min_four   -- for this text's walks alone
set_option linter.unusedVariables false
set_option linter.unusedSimpArgs false

/-! ### noonmarkref06_name: function 17 -/
def noonmarkref06_name.l0 : Nat → ByteArray → List ByteArray → Int → Option (Int)
  | 0, _, _, _ => none
  | k + 1, x0, x3, x4 => if x4 < (x3.length : Int) then (if 0 ≤ x4 then (if (rdOf ByteArray.empty x3 x4).toList = x0.toList then (some x4) else (noonmarkref06_name.l0 k x0 x3 (wrap64 (x4 + 1)))) else (none)) else (some (-1))
def noonmarkref06_name.f (k : Nat) (a0 : ByteArray) : Option (Int) := (noonmarkref06_names.f).bind fun t161 => (noonmarkref06_name.l0 k a0 t161 0)
theorem noonmarkref06_name.mono_l : ∀ k, (∀ y0 y1 y2, LeO (noonmarkref06_name.l0 k y0 y1 y2) (noonmarkref06_name.l0 (k + 1) y0 y1 y2))
  | 0 => fun _ _ _ r h => by simp [noonmarkref06_name.l0] at h
  | k + 1 => by
    have ih0 := noonmarkref06_name.mono_l k
    · intro y0 y1 y2
      unfold noonmarkref06_name.l0
      repeat' first
      | (with_reducible exact ih0 _ _ _)
      | (with_reducible exact LeO.refl _)
      | (with_reducible exact LeO.none _)
      | (with_reducible refine LeO.ite ?_ ?_)
      | (with_reducible refine LeO.bind ?_ (fun _ => ?_))
      | exact ih0 _ _ _
      | exact LeO.none _
      | refine LeO.ite ?_ ?_
      | refine LeO.bind ?_ (fun _ => ?_)
theorem noonmarkref06_name.mono : ∀ a0 k, LeO (noonmarkref06_name.f k a0) (noonmarkref06_name.f (k + 1) a0) := by
  intro a0 k
  have ih0 := noonmarkref06_name.mono_l k
  unfold noonmarkref06_name.f
  repeat' first
      | (with_reducible exact ih0 _ _ _)
      | (with_reducible exact LeO.refl _)
      | (with_reducible exact LeO.none _)
      | (with_reducible refine LeO.ite ?_ ?_)
      | (with_reducible refine LeO.bind ?_ (fun _ => ?_))
      | exact ih0 _ _ _
      | exact LeO.none _
      | refine LeO.ite ?_ ?_
      | refine LeO.bind ?_ (fun _ => ?_)
set_option maxHeartbeats 8000000 in
set_option maxRecDepth 100000 in
theorem noonmarkref06_name.calls (k : Nat) (a0 : ByteArray) (r : Int) (w : World) (hG : GOK w) (h : noonmarkref06_name.f k a0 = some r) :
    Calls Tryd.prog 17 #[.string a0] w fun e w' => e = .returned (.int .i64 r) ∧ Below w.heap.size w w' := by
  have HB := Aside0.mk (Below.refl w.heap.size w)
  have H : ((noonmarkref06_names.f).bind fun t161 => (noonmarkref06_name.l0 k a0 t161 0)) = some r := h
  clear h
  replace H := Option.bind_eq_some_iff.mp H
  obtain ⟨t161, A20, H⟩ := H
  replace H : (noonmarkref06_name.l0 k a0 t161 0) = some r := H
  have A2 := Aside0.mk A20
  clear A20
  have H' := Aside0.mk H
  clear H
  go_enter Tryd.func17, Tryd.ntmps17
  go_wp2_with (first | ((with_reducible refine gate_callee (f := 23) rfl ?_); refine goesL_ (some 5) rfl rfl Tryd.func23 (by kernel_rfl) rfl #[] rfl (by (try simp only [List.map_toArray, List.map_cons, List.map_nil]); first | done | rfl | (simp only [List.length_drop, List.length_take]; rfl)) ?_; (with_reducible refine (noonmarkref06_names.calls  t161 _ ?side1 A2.out).mono ?_); (case side1 => exact GOK.below hG (by repeat (first | (with_reducible first | exact HB.out | apply below_alloc | apply pw_below_drewN | apply below_drew1) | exact HB.out))); rintro e w3 ⟨v162, rfl, ho0, hb⟩; refine ⟨_, rfl, ?_⟩; have n0_ := Aside0.mk (Kd.R_lower ho0 (below_size (by repeat (first | (with_reducible first | exact HB.out | apply below_alloc | apply pw_below_drewN | apply below_drew1) | exact HB.out)))); have n1_ := Aside0.mk (below_step (by repeat (first | (with_reducible first | exact HB.out | apply below_alloc | apply pw_below_drewN | apply below_drew1) | exact HB.out)) hb); clear HB; have HO163 := n0_; have HB := n1_; clear n0_ n1_; (try clear hb); (try clear hb2); (try clear hk); (try clear hi); (try clear ho0)))
  go_loopg [4] k (fun kq v4 w' => ∃ (x4_1 : Int), v4 = .int .i64 x4_1 ∧ Aside0 (noonmarkref06_name.l0 kq a0 t161 x4_1 = some r) ∧ Aside0 (kq ≤ k) ∧ Aside0 (Kd.R Kd.string 9 w' w.heap.size (fun _ => True) v162 t161) ∧ Aside0 (Below w.heap.size w w'))
  case atStart => exact ⟨(0), (by first | rfl | (simp; done) | (simp [*]; done)), H', ⟨Nat.le_refl _⟩, ⟨by (with_reducible repeat (first | apply Kd.R_alloc | apply Kd.R_drewN | apply Kd.R_drew)); exact HO163.out⟩, ⟨by repeat (first | (with_reducible first | exact HB.out | apply below_alloc | apply pw_below_drewN | apply below_drew1) | exact HB.out)⟩⟩
  case round =>
    clear H'
    try clear c1
    try clear c2
    try clear p2
    obtain ⟨x4_1, rfl, HA, HK1, HO_3, HB⟩ := hrel
    cases gk with
    | zero => exact absurd HA.out (by simp [noonmarkref06_name.l0])
    | succ k1 =>
      have H := HA.out
      clear HA
      simp only [noonmarkref06_name.l0] at H
      by_cases c4 : x4_1 < (t161.length : Int)
      · rw [if_pos c4] at H
        have c4b0 : decide (x4_1 < (t161.length : Int)) = true := decide_eq_true c4
        clear c4
        by_cases c5 : 0 ≤ x4_1
        · rw [if_pos c5] at H
          have c5b0 : decide (0 ≤ x4_1) = true := decide_eq_true c5
          clear c5
          by_cases c6 : (rdOf ByteArray.empty t161 x4_1).toList = a0.toList
          · rw [if_pos c6] at H
            have c6b0 : ((rdOf ByteArray.empty t161 x4_1).toList == a0.toList) = true := beq_iff_eq.mpr c6
            have c6b1 : ((rdOf ByteArray.empty t161 x4_1).toList != a0.toList) = false := bne_eq_false_iff_eq.mpr c6
            clear c6
            obtain rfl := Option.some.inj H
            obtain ⟨Ao7, co7, eo7⟩ := Kd.R_slice HO_3.out
            subst eo7
            have p164 : 0 ≤ (x4_1 : Int) := of_decide_eq_true (by first | (with_reducible assumption) | assumption)
            have q164 : x4_1 < (t161.length : Int) := of_decide_eq_true (by first | (with_reducible assumption) | assumption)
            obtain ⟨ad164, e164, hx164_0⟩ := Kd.at_string (Kd.R_reads' HO_3.out).2.2 x4_1 p164 q164
            cases e164
            replace p164 := eq_true p164
            replace q164 := eq_true q164
            go_wp2
            go_ret
            exact ⟨by first | rfl | (simp [errW_none, errW_some] <;> rfl) | (simp [*, errW_none, errW_some] <;> rfl), by repeat (first | (with_reducible first | exact HB.out | apply below_alloc | apply pw_below_drewN | apply below_drew1) | exact HB.out)⟩
          · rw [if_neg c6] at H
            have c6b0 : ((rdOf ByteArray.empty t161 x4_1).toList == a0.toList) = false := beq_eq_false_iff_ne.mpr c6
            have c6b1 : ((rdOf ByteArray.empty t161 x4_1).toList != a0.toList) = true := bne_iff_ne.mpr c6
            have H' := Aside0.mk H
            clear H
            obtain ⟨Ao8, co8, eo8⟩ := Kd.R_slice HO_3.out
            subst eo8
            have p164 : 0 ≤ (x4_1 : Int) := of_decide_eq_true (by first | (with_reducible assumption) | assumption)
            have q164 : x4_1 < (t161.length : Int) := of_decide_eq_true (by first | (with_reducible assumption) | assumption)
            obtain ⟨ad164, e164, hx164_0⟩ := Kd.at_string (Kd.R_reads' HO_3.out).2.2 x4_1 p164 q164
            cases e164
            replace p164 := eq_true p164
            replace q164 := eq_true q164
            go_wp2
            go_roundg k1
            case measure => have := HK1.out; omega
            case rel => exact ⟨(wrap64 (x4_1 + 1)), (by first | rfl | (simp; done) | (simp [*]; done)), H', ⟨by have := HK1.out; omega⟩, ⟨by (with_reducible repeat (first | apply Kd.R_alloc | apply Kd.R_drewN | apply Kd.R_drew)); exact HO_3.out⟩, ⟨by repeat (first | (with_reducible first | exact HB.out | apply below_alloc | apply pw_below_drewN | apply below_drew1) | exact HB.out)⟩⟩
        · rw [if_neg c5] at H
          exact absurd H (by simp)
      · rw [if_neg c4] at H
        have c4b0 : decide (x4_1 < (t161.length : Int)) = false := decide_eq_false c4
        clear c4
        obtain rfl := Option.some.inj H
        obtain ⟨Ao9, co9, eo9⟩ := Kd.R_slice HO_3.out
        subst eo9
        go_wp2
        go_ret
        exact ⟨by first | rfl | (simp [errW_none, errW_some] <;> rfl) | (simp [*, errW_none, errW_some] <;> rfl), by repeat (first | (with_reducible first | exact HB.out | apply below_alloc | apply pw_below_drewN | apply below_drew1) | exact HB.out)⟩

end Go.Proofs.YtahpmeijinndhaaDoor.P

-- Written for this claim by a turned copy of the kit's print program (gprint_patch.py). Not trusted: Lean checks it.
namespace Go.Proofs.YtahpmeijinndhaaDoor.P
open Go.RowKit Go.Proofs.YtahpmeijinndhaaDoorW.PrintWords Go.Proofs.YtahpmeijinndhaaDoorW.PrintLast Go.Proofs.YtahpmeijinndhaaDoorW.PrintMore
attribute [local go_sem] max2_int min2_int max_two min_two max_three min_three max_four min_four   -- for this text's walks alone
set_option linter.unusedVariables false
set_option linter.unusedSimpArgs false

/-! ### noonmarkref06_Parse: function 7 -/
mutual
def noonmarkref06_Parse.j0 : Nat → ByteArray → Bool → Option (Int × Int × Int × Int)
  | 0, _, _ => none
  | k + 1, x0, x24 => if x24 = true then (if 4 ≤ (x0.size : Int) then ((noonmarkref06_name.f k (x0.extract 4 x0.size)).bind fun t168 => (some (1, 0, t168, 0))) else (none)) else (if (x0.size : Int) > 5 then (if 0 ≤ 3 then (if 3 ≤ (x0.size : Int) then ((noonmarkref06_name.f k (x0.extract 0 3)).bind fun t169 => (if t169 ≥ 0 then (if 5 ≤ (x0.size : Int) then ((noonmarkref06_number.f k (x0.extract 5 x0.size)).bind fun t170 => (noonmarkref06_Parse.j1 k x0 (decide (t170 > 0)))) else (none)) else (noonmarkref06_Parse.j1 k x0 false))) else (none)) else (none)) else (noonmarkref06_Parse.j1 k x0 false))
def noonmarkref06_Parse.j1 : Nat → ByteArray → Bool → Option (Int × Int × Int × Int)
  | 0, _, _ => none
  | k + 1, x0, x43 => if x43 = true then (if 3 ≤ 5 then (if 5 ≤ (x0.size : Int) then (if (x0.extract 3 5).toList = ([62, 61] : List UInt8) then (if 0 ≤ 3 then (if 3 ≤ (x0.size : Int) then ((noonmarkref06_name.f k (x0.extract 0 3)).bind fun t171 => ((noonmarkref06_number.f k (x0.extract 5 x0.size)).bind fun t172 => (some (2, t172, t171, 0)))) else (none)) else (none)) else (if (x0.extract 3 5).toList = ([60, 61] : List UInt8) then (if 0 ≤ 3 then (if 3 ≤ (x0.size : Int) then ((noonmarkref06_name.f k (x0.extract 0 3)).bind fun t173 => ((noonmarkref06_number.f k (x0.extract 5 x0.size)).bind fun t174 => (some (3, t174, t173, 0)))) else (none)) else (none)) else (some (0, 0, 0, 6)))) else (none)) else (none)) else (some (0, 0, 0, 6))
end
def noonmarkref06_Parse.f (k : Nat) (a0 : ByteArray) : Option (Int × Int × Int × Int) := (noonmarkref06_number.f k a0).bind fun t166 => (if t166 > 0 then (some (0, t166, 0, 0)) else (if (a0.size : Int) = 7 then (if 0 ≤ 4 then (if 4 ≤ (a0.size : Int) then (if (a0.extract 0 4).toList = ([108, 97, 115, 116] : List UInt8) then ((noonmarkref06_name.f k (a0.extract 4 a0.size)).bind fun t167 => (noonmarkref06_Parse.j0 k a0 (decide (t167 ≥ 0)))) else (noonmarkref06_Parse.j0 k a0 false)) else (none)) else (none)) else (noonmarkref06_Parse.j0 k a0 false)))
theorem noonmarkref06_Parse.mono_l : ∀ k, (∀ y0 y1, LeO (noonmarkref06_Parse.j0 k y0 y1) (noonmarkref06_Parse.j0 (k + 1) y0 y1)) ∧ (∀ y0 y1, LeO (noonmarkref06_Parse.j1 k y0 y1) (noonmarkref06_Parse.j1 (k + 1) y0 y1))
  | 0 => ⟨fun _ _ r h => by simp [noonmarkref06_Parse.j0] at h, fun _ _ r h => by simp [noonmarkref06_Parse.j1] at h⟩
  | k + 1 => by
    obtain ⟨ih0, ih1⟩ := noonmarkref06_Parse.mono_l k
    refine ⟨?_, ?_⟩
    · intro y0 y1
      unfold noonmarkref06_Parse.j0
      repeat' first
      | (with_reducible exact ih0 _ _)
      | (with_reducible exact ih1 _ _)
      | (with_reducible exact noonmarkref06_name.mono _ _)
      | (with_reducible exact noonmarkref06_number.mono _ _)
      | (with_reducible exact LeO.refl _)
      | (with_reducible exact LeO.none _)
      | (with_reducible refine LeO.ite ?_ ?_)
      | (with_reducible refine LeO.bind ?_ (fun _ => ?_))
      | exact ih0 _ _
      | exact ih1 _ _
      | exact noonmarkref06_name.mono _ _
      | exact noonmarkref06_number.mono _ _
      | exact LeO.none _
      | refine LeO.ite ?_ ?_
      | refine LeO.bind ?_ (fun _ => ?_)
    · intro y0 y1
      unfold noonmarkref06_Parse.j1
      repeat' first
      | (with_reducible exact ih0 _ _)
      | (with_reducible exact ih1 _ _)
      | (with_reducible exact noonmarkref06_name.mono _ _)
      | (with_reducible exact noonmarkref06_number.mono _ _)
      | (with_reducible exact LeO.refl _)
      | (with_reducible exact LeO.none _)
      | (with_reducible refine LeO.ite ?_ ?_)
      | (with_reducible refine LeO.bind ?_ (fun _ => ?_))
      | exact ih0 _ _
      | exact ih1 _ _
      | exact noonmarkref06_name.mono _ _
      | exact noonmarkref06_number.mono _ _
      | exact LeO.none _
      | refine LeO.ite ?_ ?_
      | refine LeO.bind ?_ (fun _ => ?_)
theorem noonmarkref06_Parse.mono : ∀ a0 k, LeO (noonmarkref06_Parse.f k a0) (noonmarkref06_Parse.f (k + 1) a0) := by
  intro a0 k
  obtain ⟨ih0, ih1⟩ := noonmarkref06_Parse.mono_l k
  unfold noonmarkref06_Parse.f
  repeat' first
      | (with_reducible exact ih0 _ _)
      | (with_reducible exact ih1 _ _)
      | (with_reducible exact noonmarkref06_name.mono _ _)
      | (with_reducible exact noonmarkref06_number.mono _ _)
      | (with_reducible exact LeO.refl _)
      | (with_reducible exact LeO.none _)
      | (with_reducible refine LeO.ite ?_ ?_)
      | (with_reducible refine LeO.bind ?_ (fun _ => ?_))
      | exact ih0 _ _
      | exact ih1 _ _
      | exact noonmarkref06_name.mono _ _
      | exact noonmarkref06_number.mono _ _
      | exact LeO.none _
      | refine LeO.ite ?_ ?_
      | refine LeO.bind ?_ (fun _ => ?_)
def noonmarkref06_Parse.T8 : Bool × List (List Nat × List Nat) := (true, [([], []), ([0], [0]), ([1], [1]), ([], []), ([3], [3]), ([4, 2], [4]), ([2, 5], [2, 5]), ([6, 5, 0, 1, 2, 3, 4, 5, 6], [6]), ([7, 0, 1, 2, 3, 4, 5, 6, 7], [])])
def noonmarkref06_Parse.B8 : List Nat := [0, 1, 3, 0, 8, 31, 63, 127, 255]
theorem noonmarkref06_Parse.tab8 : rtab .any (opsOf Tryd.f7 8) = noonmarkref06_Parse.T8 := by kernel_rfl
theorem noonmarkref06_Parse.bits8 : waitsOk noonmarkref06_Parse.T8.2 noonmarkref06_Parse.B8 = true := by kernel_rfl
def noonmarkref06_Parse.T10 : Bool × List (List Nat × List Nat) := (true, [([], []), ([0], [0]), ([1], [1]), ([], []), ([3], [3]), ([4, 2], [4]), ([2, 5], [2, 5]), ([6, 5, 0, 1, 2, 3, 4, 5, 6], [6]), ([7, 0, 1, 2, 3, 4, 5, 6, 7], [])])
def noonmarkref06_Parse.B10 : List Nat := [0, 1, 3, 0, 8, 31, 63, 127, 255]
theorem noonmarkref06_Parse.tab10 : rtab .any (opsOf Tryd.f7 10) = noonmarkref06_Parse.T10 := by kernel_rfl
theorem noonmarkref06_Parse.bits10 : waitsOk noonmarkref06_Parse.T10.2 noonmarkref06_Parse.B10 = true := by kernel_rfl
set_option maxHeartbeats 8000000 in
set_option maxRecDepth 100000 in
theorem noonmarkref06_Parse.calls (k : Nat) (a0 : ByteArray) (r1 : Int) (r2 : Int) (r3 : Int) (r4 : Int) (w : World) (hG : GOK w) (h : noonmarkref06_Parse.f k a0 = some (r1, r2, r3, r4)) :
    Calls Tryd.prog 7 #[.string a0] w fun e w' => e = .returned (.tuple #[.agg #[.int .i64 r1, .int .i64 r2, .int .i64 r3], .int .i64 r4]) ∧ Below w.heap.size w w' := by
  have hu23 := Tryd.underlying23
  have HB := Aside0.mk (Below.refl w.heap.size w)
  have H : ((noonmarkref06_number.f k a0).bind fun t166 => (if t166 > 0 then (some (0, t166, 0, 0)) else (if (a0.size : Int) = 7 then (if 0 ≤ 4 then (if 4 ≤ (a0.size : Int) then (if (a0.extract 0 4).toList = ([108, 97, 115, 116] : List UInt8) then ((noonmarkref06_name.f k (a0.extract 4 a0.size)).bind fun t167 => (noonmarkref06_Parse.j0 k a0 (decide (t167 ≥ 0)))) else (noonmarkref06_Parse.j0 k a0 false)) else (none)) else (none)) else (noonmarkref06_Parse.j0 k a0 false)))) = some (r1, r2, r3, r4) := h
  clear h
  replace H := Option.bind_eq_some_iff.mp H
  obtain ⟨t166, A20, H⟩ := H
  replace H : (if t166 > 0 then (some (0, t166, 0, 0)) else (if (a0.size : Int) = 7 then (if 0 ≤ 4 then (if 4 ≤ (a0.size : Int) then (if (a0.extract 0 4).toList = ([108, 97, 115, 116] : List UInt8) then ((noonmarkref06_name.f k (a0.extract 4 a0.size)).bind fun t167 => (noonmarkref06_Parse.j0 k a0 (decide (t167 ≥ 0)))) else (noonmarkref06_Parse.j0 k a0 false)) else (none)) else (none)) else (noonmarkref06_Parse.j0 k a0 false))) = some (r1, r2, r3, r4) := H
  have A2 := Aside0.mk A20
  clear A20
  by_cases c3 : t166 > 0
  · rw [if_pos c3] at H
    have c3b0 : decide (0 < t166) = true := decide_eq_true c3
    clear c3
    simp only [Option.some.injEq, Prod.mk.injEq] at H
    obtain ⟨rfl, rfl, rfl, rfl⟩ := H
    go_enter Tryd.func7, Tryd.ntmps7
    go_wp2_with (first | ((with_reducible refine gate_dst (N := 2) rfl ?_); refine box_event ?hg (N := 2) ?hd (cs := #[.int .i64 0, .int .i64 0, .int .i64 0]) (t := 23) ?hr ?_; (case hd => rfl); (case hg => rfl); (case hr => first | (go_simp; done) | (go_simp; rfl)); intro gb165 hg w4 hbox hb; have n0_ := Aside0.mk (below_step (by repeat (first | (with_reducible first | exact HB.out | apply below_alloc | apply pw_below_drewN | apply below_drew1) | exact HB.out)) hb); have n1_ := Aside0.mk (hbox); have n2_ := Aside0.mk ((by rw [hg]; exact (below_size (by repeat (first | (with_reducible first | exact HB.out | apply below_alloc | apply pw_below_drewN | apply below_drew1) | exact HB.out))) : w.heap.size ≤ gb165)); have n3_ := Aside0.mk ((by rw [hg]; exact (below_size (by repeat (first | (with_reducible first | exact HB.out | apply below_alloc | apply pw_below_drewN | apply below_drew1) | exact HB.out))) : w.heap.size ≤ gb165)); clear HB; have HB := n0_; have BK165 := n1_; have GW165 := n2_; have GE165 := n3_; clear n0_ n1_ n2_ n3_; clear hb hbox hg) | ((with_reducible refine gate_callee (f := 16) rfl ?_); refine goesL_ (some 6) rfl rfl Tryd.func16 (by kernel_rfl) rfl #[.string a0] rfl (by (try simp only [List.map_toArray, List.map_cons, List.map_nil]); first | done | rfl | (simp only [List.length_drop, List.length_take]; rfl)) ?_; (with_reducible refine (noonmarkref06_number.calls k a0 t166 _ ?side1 A2.out).mono ?_); (case side1 => exact GOK.below hG (by repeat (first | (with_reducible first | exact HB.out | apply below_alloc | apply pw_below_drewN | apply below_drew1 | refine below_set ?_ GE165.out) | exact HB.out))); rintro e w' ⟨rfl, ⟨nd, rfl⟩⟩; refine ⟨_, rfl, ?_⟩; (try (rw [drewN_self w4]; generalize hq_ : World.drewN w4 _ = w4; have n0_ : Aside0 (w4.heap[gb165]? = some (.cells #[.int .i64 0, .int .i64 0, .int .i64 0] 23 (0, 0))) := ⟨by rw [← hq_]; exact (by (with_reducible repeat (first | refine blk_drewN ?_ _ | refine blk_drew ?_ | refine blk_alloc ?_ _)); exact BK165.out)⟩; have n1_ : Aside0 (Below w.heap.size w w4) := ⟨by rw [← hq_]; exact (by repeat (first | (with_reducible first | exact HB.out | apply below_alloc | apply pw_below_drewN | apply below_drew1 | refine below_set ?_ GE165.out) | exact HB.out))⟩; clear BK165 HB hq_; have BK165 := n0_; have HB := n1_; clear n0_ n1_)); have hcz5_0 : w4.cell? ⟨gb165, 0, none⟩ = some (.int .i64 0) := (blk_cell BK165.out 0).trans rfl; have hcz5_1 : w4.cell? ⟨gb165, 1, none⟩ = some (.int .i64 0) := (blk_cell BK165.out 1).trans rfl; have hcz5_2 : w4.cell? ⟨gb165, 2, none⟩ = some (.int .i64 0) := (blk_cell BK165.out 2).trans rfl; have hfz5_0 := blk_frozen BK165.out 0; have hfz5_1 := blk_frozen BK165.out 1; have hfz5_2 := blk_frozen BK165.out 2))
    refine bodyPost_ret (results_ct rfl _ _ gb165 23 #[.int .i64 0, .int .i64 t166, .int .i64 0] (0, 0) _ rfl (by (with_reducible repeat (first | refine blk_drewN ?_ _ | refine blk_drew ?_ | refine blk_alloc ?_ _)); refine blk_put (cs := #[.int .i64 0, .int .i64 t166, .int .i64 0]) ?_ 2 _ rfl; (with_reducible repeat (first | refine blk_drewN ?_ _ | refine blk_drew ?_ | refine blk_alloc ?_ _)); refine blk_put (cs := #[.int .i64 0, .int .i64 0, .int .i64 0]) ?_ 1 _ rfl; (with_reducible repeat (first | refine blk_drewN ?_ _ | refine blk_drew ?_ | refine blk_alloc ?_ _)); refine blk_put (cs := #[.int .i64 0, .int .i64 0, .int .i64 0]) ?_ 0 _ rfl; (with_reducible repeat (first | refine blk_drewN ?_ _ | refine blk_drew ?_ | refine blk_alloc ?_ _)); exact BK165.out) Tryd.underlying23 rfl (by kernel_rfl)) rfl ?_
    exact ⟨by first | rfl | (simp [errW_none, errW_some] <;> rfl) | (simp [*, errW_none, errW_some] <;> rfl), by repeat (first | (with_reducible first | exact HB.out | apply below_alloc | apply pw_below_drewN | apply below_drew1 | refine below_set ?_ GE165.out) | exact HB.out)⟩
  · rw [if_neg c3] at H
    have c3b0 : decide (0 < t166) = false := decide_eq_false c3
    clear c3
    have HC6 := Aside0.mk H
    clear H
    go_enter Tryd.func7, Tryd.ntmps7
    go_upto_region 4 with (first | ((with_reducible refine gate_dst (N := 2) rfl ?_); refine box_event ?hg (N := 2) ?hd (cs := #[.int .i64 0, .int .i64 0, .int .i64 0]) (t := 23) ?hr ?_; (case hd => rfl); (case hg => rfl); (case hr => first | (go_simp; done) | (go_simp; rfl)); intro gb165 hg w7 hbox hb; have n0_ := Aside0.mk (below_step (by repeat (first | (with_reducible first | exact HB.out | apply below_alloc | apply pw_below_drewN | apply below_drew1) | exact HB.out)) hb); have n1_ := Aside0.mk (hbox); have n2_ := Aside0.mk ((by rw [hg]; exact (below_size (by repeat (first | (with_reducible first | exact HB.out | apply below_alloc | apply pw_below_drewN | apply below_drew1) | exact HB.out))) : w.heap.size ≤ gb165)); have n3_ := Aside0.mk ((by rw [hg]; exact (below_size (by repeat (first | (with_reducible first | exact HB.out | apply below_alloc | apply pw_below_drewN | apply below_drew1) | exact HB.out))) : w.heap.size ≤ gb165)); clear HB; have HB := n0_; have BK165 := n1_; have GW165 := n2_; have GE165 := n3_; clear n0_ n1_ n2_ n3_; clear hb hbox hg) | ((with_reducible refine gate_callee (f := 16) rfl ?_); refine goesL_ (some 6) rfl rfl Tryd.func16 (by kernel_rfl) rfl #[.string a0] rfl (by (try simp only [List.map_toArray, List.map_cons, List.map_nil]); first | done | rfl | (simp only [List.length_drop, List.length_take]; rfl)) ?_; (with_reducible refine (noonmarkref06_number.calls k a0 t166 _ ?side1 A2.out).mono ?_); (case side1 => exact GOK.below hG (by repeat (first | (with_reducible first | exact HB.out | apply below_alloc | apply pw_below_drewN | apply below_drew1 | refine below_set ?_ GE165.out) | exact HB.out))); rintro e w' ⟨rfl, ⟨nd, rfl⟩⟩; refine ⟨_, rfl, ?_⟩))
    (try simp only [Act.put, List.setIfInBounds_toArray, List.set_cons_zero, List.set_cons_succ])
    go_cut [24] (fun v24 wc => ∃ (kq : Nat) (x24_5 : Bool), v24 = .bool x24_5 ∧ Aside0 (noonmarkref06_Parse.j0 kq a0 x24_5 = some (r1, r2, r3, r4)) ∧ Aside0 (kq ≤ k) ∧ Aside0 (wc.heap[gb165]? = some (.cells #[.int .i64 0, .int .i64 0, .int .i64 0] 23 (0, 0))) ∧ Aside0 (Below w.heap.size w wc))
    case first =>
      have H := HC6.out
      clear HC6
      by_cases c8 : (a0.size : Int) = 7
      · rw [if_pos c8] at H
        have c8b0 : ((a0.size : Int) == 7) = true := beq_iff_eq.mpr c8
        have c8b1 : ((a0.size : Int) != 7) = false := bne_eq_false_iff_eq.mpr c8
        clear c8
        (first | rw [c8b0] | (simp only [i64_w, i32_w]; rw [c8b0]) | skip)
        by_cases c9 : 0 ≤ 4
        · rw [if_pos c9] at H
          have c9b0 := eq_true c9
          have c9b1 : decide (0 ≤ 4) = true := decide_eq_true c9
          clear c9
          by_cases c10 : 4 ≤ (a0.size : Int)
          · rw [if_pos c10] at H
            have c10b0 := eq_true c10
            have c10b1 : decide (4 ≤ (a0.size : Int)) = true := decide_eq_true c10
            clear c10
            by_cases c11 : (a0.extract 0 4).toList = ([108, 97, 115, 116] : List UInt8)
            · rw [if_pos c11] at H
              have c11b0 : ((a0.extract 0 4).toList == ([108, 97, 115, 116] : List UInt8)) = true := beq_iff_eq.mpr c11
              have c11b1 : ((a0.extract 0 4).toList != ([108, 97, 115, 116] : List UInt8)) = false := bne_eq_false_iff_eq.mpr c11
              clear c11
              have c12b0 := eq_true (of_decide_eq_true (by first | (with_reducible assumption) | assumption) : 4 ≤ (a0.size : Int))
              replace H := Option.bind_eq_some_iff.mp H
              obtain ⟨t167, A130, H⟩ := H
              replace H : (noonmarkref06_Parse.j0 k a0 (decide (t167 ≥ 0))) = some (r1, r2, r3, r4) := H
              have A13 := Aside0.mk A130
              clear A130
              have H' := Aside0.mk H
              clear H
              go_wp2_with (first | (go_at_call 17; (with_reducible refine (noonmarkref06_name.calls k (a0.extract 4 a0.size) t167 _ ?side1 A13.out).mono ?_); (case side1 => exact GOK.below hG (by repeat (first | (with_reducible first | exact HB.out | apply below_alloc | apply pw_below_drewN | apply below_drew1 | refine below_set ?_ GE165.out) | exact HB.out))); rintro e w14 ⟨rfl, hb⟩; have n0_ := Aside0.mk (blk_below (g := gb165) (o := .cells #[.int .i64 0, .int .i64 0, .int .i64 0] 23 (0, 0)) (by (with_reducible repeat (first | refine blk_drewN ?_ _ | refine blk_drew ?_ | refine blk_alloc ?_ _)); exact BK165.out) hb); have n1_ := Aside0.mk (below_step (by repeat (first | (with_reducible first | exact HB.out | apply below_alloc | apply pw_below_drewN | apply below_drew1 | refine below_set ?_ GE165.out) | exact HB.out)) hb); clear BK165; clear HB; have BK165 := n0_; have HB := n1_; clear n0_ n1_; (try clear hb); (try clear hb2); (try clear hk); (try clear hi)))
              go_meet
              case rel => exact ⟨_, (decide (t167 ≥ 0)), (by first | rfl | (simp; done) | (simp [*]; done)), H', ⟨by first | omega | exact Nat.le_refl _⟩, ⟨by (with_reducible repeat (first | refine blk_drewN ?_ _ | refine blk_drew ?_ | refine blk_alloc ?_ _)); exact BK165.out⟩, ⟨by repeat (first | (with_reducible first | exact HB.out | apply below_alloc | apply pw_below_drewN | apply below_drew1 | refine below_set ?_ GE165.out) | exact HB.out)⟩⟩
            · rw [if_neg c11] at H
              have c11b0 : ((a0.extract 0 4).toList == ([108, 97, 115, 116] : List UInt8)) = false := beq_eq_false_iff_ne.mpr c11
              have c11b1 : ((a0.extract 0 4).toList != ([108, 97, 115, 116] : List UInt8)) = true := bne_iff_ne.mpr c11
              have H' := Aside0.mk H
              clear H
              go_wp2
              go_meet
              case rel => exact ⟨_, (false), (by first | rfl | (simp; done) | (simp [*]; done)), H', ⟨by first | omega | exact Nat.le_refl _⟩, ⟨by (with_reducible repeat (first | refine blk_drewN ?_ _ | refine blk_drew ?_ | refine blk_alloc ?_ _)); exact BK165.out⟩, ⟨by repeat (first | (with_reducible first | exact HB.out | apply below_alloc | apply pw_below_drewN | apply below_drew1 | refine below_set ?_ GE165.out) | exact HB.out)⟩⟩
          · rw [if_neg c10] at H
            exact absurd H (by simp)
        · rw [if_neg c9] at H
          exact absurd H (by simp)
      · rw [if_neg c8] at H
        have c8b0 : ((a0.size : Int) == 7) = false := beq_eq_false_iff_ne.mpr c8
        have c8b1 : ((a0.size : Int) != 7) = true := bne_iff_ne.mpr c8
        (first | rw [c8b0] | (simp only [i64_w, i32_w]; rw [c8b0]) | skip)
        have H' := Aside0.mk H
        clear H
        go_wp2
        go_meet
        case rel => exact ⟨_, (false), (by first | rfl | (simp; done) | (simp [*]; done)), H', ⟨by first | omega | exact Nat.le_refl _⟩, ⟨by (with_reducible repeat (first | refine blk_drewN ?_ _ | refine blk_drew ?_ | refine blk_alloc ?_ _)); exact BK165.out⟩, ⟨by repeat (first | (with_reducible first | exact HB.out | apply below_alloc | apply pw_below_drewN | apply below_drew1 | refine below_set ?_ GE165.out) | exact HB.out)⟩⟩
    case rest =>
      clear HC6
      try clear c1
      try clear p2
      try clear c3
      try clear c3b0
      try clear c7
      try clear c8
      try clear c8b0
      try clear c8b1
      try clear c9
      try clear c9b0
      try clear c9b1
      try clear c10
      try clear c10b0
      try clear c10b1
      try clear c11
      try clear c11b0
      try clear c11b1
      try clear c12
      try clear c12b0
      try clear hcz5_0
      try clear hcz5_1
      try clear hcz5_2
      try clear hfz5_0
      try clear hfz5_1
      try clear hfz5_2
      obtain ⟨kq, x24_5, rfl, HA, HJ5, BK165, HB⟩ := hcut
      cases kq with
      | zero => exact absurd HA.out (by simp [noonmarkref06_Parse.j0])
      | succ kj5 =>
        have H := HA.out
        clear HA
        simp only [noonmarkref06_Parse.j0] at H
        by_cases c15 : x24_5 = true
        · subst c15
          have H1 : (if 4 ≤ (a0.size : Int) then ((noonmarkref06_name.f kj5 (a0.extract 4 a0.size)).bind fun t168 => (some (1, 0, t168, 0))) else (none)) = some (r1, r2, r3, r4) := by rw [if_pos rfl] at H; exact H
          clear H
          have H := H1
          clear H1
          by_cases c16 : 4 ≤ (a0.size : Int)
          · rw [if_pos c16] at H
            have c16b0 := eq_true c16
            have c16b1 : decide (4 ≤ (a0.size : Int)) = true := decide_eq_true c16
            clear c16
            replace H := Option.bind_eq_some_iff.mp H
            obtain ⟨t168, A170, H⟩ := H
            replace H : (some (1, 0, t168, 0)) = some (r1, r2, r3, r4) := H
            have A17 := Aside0.mk A170
            clear A170
            simp only [Option.some.injEq, Prod.mk.injEq] at H
            obtain ⟨rfl, rfl, rfl, rfl⟩ := H
            go_wp2_with (first | ((with_reducible refine gate_callee (f := 17) rfl ?_); refine goesL_ (some 27) rfl rfl Tryd.func17 (by kernel_rfl) rfl #[.string (a0.extract 4 a0.size)] rfl (by (try simp only [List.map_toArray, List.map_cons, List.map_nil]); first | done | rfl | (simp only [List.length_drop, List.length_take]; rfl)) ?_; (with_reducible refine (noonmarkref06_name.calls kj5 (a0.extract 4 a0.size) t168 _ ?side1 A17.out).mono ?_); (case side1 => exact GOK.below hG (by repeat (first | (with_reducible first | exact HB.out | apply below_alloc | apply pw_below_drewN | apply below_drew1 | refine below_set ?_ GE165.out) | exact HB.out))); rintro e w18 ⟨rfl, hb⟩; refine ⟨_, rfl, ?_⟩; have n0_ := Aside0.mk (blk_below (g := gb165) (o := .cells #[.int .i64 0, .int .i64 0, .int .i64 0] 23 (0, 0)) (by (with_reducible repeat (first | refine blk_drewN ?_ _ | refine blk_drew ?_ | refine blk_alloc ?_ _)); exact BK165.out) hb); have n1_ := Aside0.mk (below_step (by repeat (first | (with_reducible first | exact HB.out | apply below_alloc | apply pw_below_drewN | apply below_drew1 | refine below_set ?_ GE165.out) | exact HB.out)) hb); clear BK165; clear HB; have BK165 := n0_; have HB := n1_; clear n0_ n1_; (try clear hb); (try clear hb2); (try clear hk); (try clear hi); have hcz19_0 : w18.cell? ⟨gb165, 0, none⟩ = some (.int .i64 0) := (blk_cell BK165.out 0).trans rfl; have hcz19_1 : w18.cell? ⟨gb165, 1, none⟩ = some (.int .i64 0) := (blk_cell BK165.out 1).trans rfl; have hcz19_2 : w18.cell? ⟨gb165, 2, none⟩ = some (.int .i64 0) := (blk_cell BK165.out 2).trans rfl; have hfz19_0 := blk_frozen BK165.out 0; have hfz19_1 := blk_frozen BK165.out 1; have hfz19_2 := blk_frozen BK165.out 2))
            refine bodyPost_ret (results_ct rfl _ _ gb165 23 #[.int .i64 1, .int .i64 0, .int .i64 t168] (0, 0) _ rfl (by (with_reducible repeat (first | refine blk_drewN ?_ _ | refine blk_drew ?_ | refine blk_alloc ?_ _)); refine blk_put (cs := #[.int .i64 1, .int .i64 0, .int .i64 0]) ?_ 2 _ rfl; (with_reducible repeat (first | refine blk_drewN ?_ _ | refine blk_drew ?_ | refine blk_alloc ?_ _)); refine blk_put (cs := #[.int .i64 1, .int .i64 0, .int .i64 0]) ?_ 1 _ rfl; (with_reducible repeat (first | refine blk_drewN ?_ _ | refine blk_drew ?_ | refine blk_alloc ?_ _)); refine blk_put (cs := #[.int .i64 0, .int .i64 0, .int .i64 0]) ?_ 0 _ rfl; (with_reducible repeat (first | refine blk_drewN ?_ _ | refine blk_drew ?_ | refine blk_alloc ?_ _)); exact BK165.out) Tryd.underlying23 rfl (by kernel_rfl)) rfl ?_
            exact ⟨by first | rfl | (simp [errW_none, errW_some] <;> rfl) | (simp [*, errW_none, errW_some] <;> rfl), by repeat (first | (with_reducible first | exact HB.out | apply below_alloc | apply pw_below_drewN | apply below_drew1 | refine below_set ?_ GE165.out) | exact HB.out)⟩
          · rw [if_neg c16] at H
            exact absurd H (by simp)
        · replace c15 := Bool.eq_false_iff.mpr c15
          subst c15
          have H1 : (if (a0.size : Int) > 5 then (if 0 ≤ 3 then (if 3 ≤ (a0.size : Int) then ((noonmarkref06_name.f kj5 (a0.extract 0 3)).bind fun t169 => (if t169 ≥ 0 then (if 5 ≤ (a0.size : Int) then ((noonmarkref06_number.f kj5 (a0.extract 5 a0.size)).bind fun t170 => (noonmarkref06_Parse.j1 kj5 a0 (decide (t170 > 0)))) else (none)) else (noonmarkref06_Parse.j1 kj5 a0 false))) else (none)) else (none)) else (noonmarkref06_Parse.j1 kj5 a0 false)) = some (r1, r2, r3, r4) := by rw [if_neg (show ¬ (false = true) by decide)] at H; exact H
          clear H
          have H := H1
          clear H1
          have HC20 := Aside0.mk H
          clear H
          go_upto_region 6 with (fail)
          go_cut [43] (fun v43 wc => ∃ (kq : Nat) (x43_19 : Bool), v43 = .bool x43_19 ∧ Aside0 (noonmarkref06_Parse.j1 kq a0 x43_19 = some (r1, r2, r3, r4)) ∧ Aside0 (kq ≤ kj5) ∧ Aside0 (wc.heap[gb165]? = some (.cells #[.int .i64 0, .int .i64 0, .int .i64 0] 23 (0, 0))) ∧ Aside0 (Below w.heap.size w wc))
          case first =>
            have H := HC20.out
            clear HC20
            by_cases c21 : (a0.size : Int) > 5
            · rw [if_pos c21] at H
              have c21b0 : decide (5 < (a0.size : Int)) = true := decide_eq_true c21
              have c21b1 : decide (5 < a0.size) = true := decide_eq_true (by omega)
              clear c21
              (first | rw [c21b0] | (simp only [i64_w, i32_w]; rw [c21b0]) | skip)
              by_cases c22 : 0 ≤ 3
              · rw [if_pos c22] at H
                have c22b0 := eq_true c22
                have c22b1 : decide (0 ≤ 3) = true := decide_eq_true c22
                clear c22
                by_cases c23 : 3 ≤ (a0.size : Int)
                · rw [if_pos c23] at H
                  have c23b0 := eq_true c23
                  have c23b1 : decide (3 ≤ (a0.size : Int)) = true := decide_eq_true c23
                  clear c23
                  replace H := Option.bind_eq_some_iff.mp H
                  obtain ⟨t169, A240, H⟩ := H
                  replace H : (if t169 ≥ 0 then (if 5 ≤ (a0.size : Int) then ((noonmarkref06_number.f kj5 (a0.extract 5 a0.size)).bind fun t170 => (noonmarkref06_Parse.j1 kj5 a0 (decide (t170 > 0)))) else (none)) else (noonmarkref06_Parse.j1 kj5 a0 false)) = some (r1, r2, r3, r4) := H
                  have A24 := Aside0.mk A240
                  clear A240
                  by_cases c25 : t169 ≥ 0
                  · rw [if_pos c25] at H
                    have c25b0 : decide (0 ≤ t169) = true := decide_eq_true c25
                    clear c25
                    by_cases c26 : 5 ≤ (a0.size : Int)
                    · rw [if_pos c26] at H
                      have c26b0 := eq_true c26
                      have c26b1 : decide (5 ≤ (a0.size : Int)) = true := decide_eq_true c26
                      clear c26
                      replace H := Option.bind_eq_some_iff.mp H
                      obtain ⟨t170, A270, H⟩ := H
                      replace H : (noonmarkref06_Parse.j1 kj5 a0 (decide (t170 > 0))) = some (r1, r2, r3, r4) := H
                      have A27 := Aside0.mk A270
                      clear A270
                      have H' := Aside0.mk H
                      clear H
                      go_wp2_with (first | (go_at_call 17; (with_reducible refine (noonmarkref06_name.calls kj5 (a0.extract 0 3) t169 _ ?side1 A24.out).mono ?_); (case side1 => exact GOK.below hG (by repeat (first | (with_reducible first | exact HB.out | apply below_alloc | apply pw_below_drewN | apply below_drew1 | refine below_set ?_ GE165.out) | exact HB.out))); rintro e w28 ⟨rfl, hb⟩; have n0_ := Aside0.mk (blk_below (g := gb165) (o := .cells #[.int .i64 0, .int .i64 0, .int .i64 0] 23 (0, 0)) (by (with_reducible repeat (first | refine blk_drewN ?_ _ | refine blk_drew ?_ | refine blk_alloc ?_ _)); exact BK165.out) hb); have n1_ := Aside0.mk (below_step (by repeat (first | (with_reducible first | exact HB.out | apply below_alloc | apply pw_below_drewN | apply below_drew1 | refine below_set ?_ GE165.out) | exact HB.out)) hb); clear BK165; clear HB; have BK165 := n0_; have HB := n1_; clear n0_ n1_; (try clear hb); (try clear hb2); (try clear hk); (try clear hi)) | (go_at_call 16; (with_reducible refine (noonmarkref06_number.calls kj5 (a0.extract 5 a0.size) t170 _ ?side1 A27.out).mono ?_); (case side1 => exact GOK.below hG (by repeat (first | (with_reducible first | exact HB.out | apply below_alloc | apply pw_below_drewN | apply below_drew1 | refine below_set ?_ GE165.out) | exact HB.out))); rintro e w' ⟨rfl, ⟨nd, rfl⟩⟩))
                      go_meet
                      case rel => exact ⟨_, (decide (t170 > 0)), (by first | rfl | (simp; done) | (simp [*]; done)), H', ⟨by have := HJ5.out; first | omega | exact Nat.le_refl _⟩, ⟨by (with_reducible repeat (first | refine blk_drewN ?_ _ | refine blk_drew ?_ | refine blk_alloc ?_ _)); exact BK165.out⟩, ⟨by repeat (first | (with_reducible first | exact HB.out | apply below_alloc | apply pw_below_drewN | apply below_drew1 | refine below_set ?_ GE165.out) | exact HB.out)⟩⟩
                    · rw [if_neg c26] at H
                      exact absurd H (by simp)
                  · rw [if_neg c25] at H
                    have c25b0 : decide (0 ≤ t169) = false := decide_eq_false c25
                    clear c25
                    have H' := Aside0.mk H
                    clear H
                    go_wp2_with (first | (go_at_call 17; (with_reducible refine (noonmarkref06_name.calls kj5 (a0.extract 0 3) t169 _ ?side1 A24.out).mono ?_); (case side1 => exact GOK.below hG (by repeat (first | (with_reducible first | exact HB.out | apply below_alloc | apply pw_below_drewN | apply below_drew1 | refine below_set ?_ GE165.out) | exact HB.out))); rintro e w29 ⟨rfl, hb⟩; have n0_ := Aside0.mk (blk_below (g := gb165) (o := .cells #[.int .i64 0, .int .i64 0, .int .i64 0] 23 (0, 0)) (by (with_reducible repeat (first | refine blk_drewN ?_ _ | refine blk_drew ?_ | refine blk_alloc ?_ _)); exact BK165.out) hb); have n1_ := Aside0.mk (below_step (by repeat (first | (with_reducible first | exact HB.out | apply below_alloc | apply pw_below_drewN | apply below_drew1 | refine below_set ?_ GE165.out) | exact HB.out)) hb); clear BK165; clear HB; have BK165 := n0_; have HB := n1_; clear n0_ n1_; (try clear hb); (try clear hb2); (try clear hk); (try clear hi)))
                    go_meet
                    case rel => exact ⟨_, (false), (by first | rfl | (simp; done) | (simp [*]; done)), H', ⟨by have := HJ5.out; first | omega | exact Nat.le_refl _⟩, ⟨by (with_reducible repeat (first | refine blk_drewN ?_ _ | refine blk_drew ?_ | refine blk_alloc ?_ _)); exact BK165.out⟩, ⟨by repeat (first | (with_reducible first | exact HB.out | apply below_alloc | apply pw_below_drewN | apply below_drew1 | refine below_set ?_ GE165.out) | exact HB.out)⟩⟩
                · rw [if_neg c23] at H
                  exact absurd H (by simp)
              · rw [if_neg c22] at H
                exact absurd H (by simp)
            · rw [if_neg c21] at H
              have c21b0 : decide (5 < (a0.size : Int)) = false := decide_eq_false c21
              have c21b1 : decide (5 < a0.size) = false := decide_eq_false (by omega)
              clear c21
              (first | rw [c21b0] | (simp only [i64_w, i32_w]; rw [c21b0]) | skip)
              have H' := Aside0.mk H
              clear H
              go_wp2
              go_meet
              case rel => exact ⟨_, (false), (by first | rfl | (simp; done) | (simp [*]; done)), H', ⟨by have := HJ5.out; first | omega | exact Nat.le_refl _⟩, ⟨by (with_reducible repeat (first | refine blk_drewN ?_ _ | refine blk_drew ?_ | refine blk_alloc ?_ _)); exact BK165.out⟩, ⟨by repeat (first | (with_reducible first | exact HB.out | apply below_alloc | apply pw_below_drewN | apply below_drew1 | refine below_set ?_ GE165.out) | exact HB.out)⟩⟩
          case rest =>
            clear HC20
            try clear c1
            try clear c2
            try clear p2
            try clear c3
            try clear c3b0
            try clear c7
            try clear c8
            try clear c8b0
            try clear c8b1
            try clear c9
            try clear c9b0
            try clear c9b1
            try clear c10
            try clear c10b0
            try clear c10b1
            try clear c11
            try clear c11b0
            try clear c11b1
            try clear c12
            try clear c12b0
            try clear c15
            try clear c16
            try clear c16b0
            try clear c16b1
            try clear c17
            try clear c21
            try clear c21b0
            try clear c21b1
            try clear c22
            try clear c22b0
            try clear c22b1
            try clear c23
            try clear c23b0
            try clear c23b1
            try clear c25
            try clear c25b0
            try clear c26
            try clear c26b0
            try clear c26b1
            try clear hcz19_0
            try clear hcz19_1
            try clear hcz19_2
            try clear hcz5_0
            try clear hcz5_1
            try clear hcz5_2
            try clear hfz19_0
            try clear hfz19_1
            try clear hfz19_2
            try clear hfz5_0
            try clear hfz5_1
            try clear hfz5_2
            try clear p2
            obtain ⟨kq, x43_19, rfl, HA, HJ19, BK165, HB⟩ := hcut
            cases kq with
            | zero => exact absurd HA.out (by simp [noonmarkref06_Parse.j1])
            | succ kj19 =>
              have H := HA.out
              clear HA
              simp only [noonmarkref06_Parse.j1] at H
              by_cases c30 : x43_19 = true
              · subst c30
                have H1 : (if 3 ≤ 5 then (if 5 ≤ (a0.size : Int) then (if (a0.extract 3 5).toList = ([62, 61] : List UInt8) then (if 0 ≤ 3 then (if 3 ≤ (a0.size : Int) then ((noonmarkref06_name.f kj19 (a0.extract 0 3)).bind fun t171 => ((noonmarkref06_number.f kj19 (a0.extract 5 a0.size)).bind fun t172 => (some (2, t172, t171, 0)))) else (none)) else (none)) else (if (a0.extract 3 5).toList = ([60, 61] : List UInt8) then (if 0 ≤ 3 then (if 3 ≤ (a0.size : Int) then ((noonmarkref06_name.f kj19 (a0.extract 0 3)).bind fun t173 => ((noonmarkref06_number.f kj19 (a0.extract 5 a0.size)).bind fun t174 => (some (3, t174, t173, 0)))) else (none)) else (none)) else (some (0, 0, 0, 6)))) else (none)) else (none)) = some (r1, r2, r3, r4) := by rw [if_pos rfl] at H; exact H
                clear H
                have H := H1
                clear H1
                by_cases c31 : 3 ≤ 5
                · rw [if_pos c31] at H
                  have c31b0 := eq_true c31
                  have c31b1 : decide (3 ≤ 5) = true := decide_eq_true c31
                  clear c31
                  by_cases c32 : 5 ≤ (a0.size : Int)
                  · rw [if_pos c32] at H
                    have c32b0 := eq_true c32
                    have c32b1 : decide (5 ≤ (a0.size : Int)) = true := decide_eq_true c32
                    clear c32
                    by_cases c33 : (a0.extract 3 5).toList = ([62, 61] : List UInt8)
                    · rw [if_pos c33] at H
                      have c33b0 : ((a0.extract 3 5).toList == ([62, 61] : List UInt8)) = true := beq_iff_eq.mpr c33
                      have c33b1 : ((a0.extract 3 5).toList != ([62, 61] : List UInt8)) = false := bne_eq_false_iff_eq.mpr c33
                      clear c33
                      by_cases c34 : 0 ≤ 3
                      · rw [if_pos c34] at H
                        have c34b0 := eq_true c34
                        have c34b1 : decide (0 ≤ 3) = true := decide_eq_true c34
                        clear c34
                        by_cases c35 : 3 ≤ (a0.size : Int)
                        · rw [if_pos c35] at H
                          have c35b0 := eq_true c35
                          have c35b1 : decide (3 ≤ (a0.size : Int)) = true := decide_eq_true c35
                          clear c35
                          replace H := Option.bind_eq_some_iff.mp H
                          obtain ⟨t171, A360, H⟩ := H
                          replace H : ((noonmarkref06_number.f kj19 (a0.extract 5 a0.size)).bind fun t172 => (some (2, t172, t171, 0))) = some (r1, r2, r3, r4) := H
                          have A36 := Aside0.mk A360
                          clear A360
                          have c37b0 := eq_true (of_decide_eq_true (by first | (with_reducible assumption) | assumption) : 5 ≤ (a0.size : Int))
                          replace H := Option.bind_eq_some_iff.mp H
                          obtain ⟨t172, A380, H⟩ := H
                          replace H : (some (2, t172, t171, 0)) = some (r1, r2, r3, r4) := H
                          have A38 := Aside0.mk A380
                          clear A380
                          simp only [Option.some.injEq, Prod.mk.injEq] at H
                          obtain ⟨rfl, rfl, rfl, rfl⟩ := H
                          try go_wp2
                          have n0_ := Aside0.mk (blk_drew BK165.out)
                          have n1_ := Aside0.mk (below_drew1 HB.out)
                          clear BK165
                          clear HB
                          have BK165 := n0_
                          have HB := n1_
                          clear n0_ n1_
                          refine start_ (n := 9) (S := fun w' => True) (ds := []) #[false, false, false, false, false, false, false, false, false] (by kernel_rfl) rfl rfl trivial (fun hHeld => ?_); refine with_tabW noonmarkref06_Parse.tab8 noonmarkref06_Parse.bits8 (fun HT_ HW_ => ?_)
                          generalize wc.drew = w39 at BK165 HB hHeld ⊢
                          refine pure_ (i := 0) (N := some 47) (v := ?_) (a' := ?_) #[true, false, false, false, false, false, false, false, false] rfl rfl (any_of HT_.out (by kernel_rfl)) (fun _ _ _ h => h) (Or.inl ⟨by rfl, ?_⟩) ?_ ?_
                          rotate_left
                          · intro w'
                            go_simp
                            with_reducible rfl
                          rotate_left
                          · simp only [Act.put, List.setIfInBounds_toArray, List.set_cons_zero, List.set_cons_succ, i64_w, i32_w]
                            rfl
                          refine pure_ (i := 1) (N := some 48) (v := ?_) (a' := ?_) #[true, true, false, false, false, false, false, false, false] rfl rfl (any_of HT_.out (by kernel_rfl)) (fun _ _ _ h => h) (Or.inl ⟨by rfl, ?_⟩) ?_ ?_
                          rotate_left
                          · intro w'
                            go_simp
                            with_reducible rfl
                          rotate_left
                          · simp only [Act.put, List.setIfInBounds_toArray, List.set_cons_zero, List.set_cons_succ, i64_w, i32_w]
                            rfl
                          refine pure_ (i := 3) (N := some 50) (v := ?_) (a' := ?_) #[true, true, false, true, false, false, false, false, false] rfl rfl (any_of HT_.out (by kernel_rfl)) (fun _ _ _ h => h) (Or.inl ⟨by rfl, ?_⟩) ?_ ?_
                          rotate_left
                          · intro w'
                            go_simp
                            with_reducible rfl
                          rotate_left
                          · simp only [Act.put, List.setIfInBounds_toArray, List.set_cons_zero, List.set_cons_succ, i64_w, i32_w]
                            rfl
                          refine pure_ (i := 4) (N := some 51) (v := ?_) (a' := ?_) #[true, true, false, true, true, false, false, false, false] rfl rfl (any_of HT_.out (by kernel_rfl)) (fun _ _ _ h => h) (Or.inl ⟨by rfl, ?_⟩) ?_ ?_
                          rotate_left
                          · intro w'
                            go_simp
                            with_reducible rfl
                          rotate_left
                          · simp only [Act.put, List.setIfInBounds_toArray, List.set_cons_zero, List.set_cons_succ, i64_w, i32_w]
                            rfl
                          refine one_ (i := 2) (N := some 49) #[true, true, true, true, true, false, false, false, false] rfl rfl (one_of HT_.out (by kernel_rfl)) (by decide) (fun K hK => ?_)
                          refine goes_ Tryd.func17 (by kernel_rfl) rfl #[.string (a0.extract 0 3)] (by rfl) rfl rfl (by (try simp only [List.map_toArray, List.map_cons, List.map_nil]); first | done | rfl | (simp only [List.length_drop, List.length_take]; rfl)) ?_
                          with_reducible refine (noonmarkref06_name.calls kj19 (a0.extract 0 3) t171 _ ?side1 A36.out).mono ?_
                          (case side1 => exact GOK.below hG (by repeat (first | (with_reducible first | exact HB.out | apply below_alloc | apply pw_below_drewN | apply below_drew1 | refine below_set ?_ GE165.out) | exact HB.out)))
                          rintro e w40 ⟨rfl, hb⟩
                          refine ⟨_, rfl, ?_⟩
                          have n0_ := Aside0.mk (blk_below (g := gb165) (o := .cells #[.int .i64 0, .int .i64 0, .int .i64 0] 23 (0, 0)) (by (with_reducible repeat (first | refine blk_drewN ?_ _ | refine blk_drew ?_ | refine blk_alloc ?_ _)); exact BK165.out) hb)
                          have n1_ := Aside0.mk (below_step (by repeat (first | (with_reducible first | exact HB.out | apply below_alloc | apply pw_below_drewN | apply below_drew1 | refine below_set ?_ GE165.out) | exact HB.out)) hb)
                          clear BK165
                          clear HB
                          have BK165 := n0_
                          have HB := n1_
                          clear n0_ n1_
                          (try clear hb)
                          (try clear hb2)
                          (try clear hk)
                          (try clear hi)
                          refine hK.out _ _ trivial (fun hHeld => ?_)
                          clear hK K
                          refine norm_ (a' := ?_) ?_ ?_
                          rotate_left
                          · show Act.put _ (some 49) _ = _
                            simp only [Act.put, List.setIfInBounds_toArray, List.set_cons_zero, List.set_cons_succ, i64_w, i32_w]
                            rfl
                          refine one_ (i := 5) (N := some 52) #[true, true, true, true, true, true, false, false, false] rfl rfl (one_of HT_.out (by kernel_rfl)) (by decide) (fun K hK => ?_)
                          refine goes_ Tryd.func16 (by kernel_rfl) rfl #[.string (a0.extract 5 a0.size)] (by rfl) rfl rfl (by (try simp only [List.map_toArray, List.map_cons, List.map_nil]); first | done | rfl | (simp only [List.length_drop, List.length_take]; rfl)) ?_
                          with_reducible refine (noonmarkref06_number.calls kj19 (a0.extract 5 a0.size) t172 _ ?side1 A38.out).mono ?_
                          (case side1 => exact GOK.below hG (by repeat (first | (with_reducible first | exact HB.out | apply below_alloc | apply pw_below_drewN | apply below_drew1 | refine below_set ?_ GE165.out) | exact HB.out)))
                          rintro e w' ⟨rfl, ⟨nd, rfl⟩⟩
                          refine ⟨_, rfl, ?_⟩
                          refine hK.out _ _ trivial (fun hHeld => ?_)
                          clear hK K
                          refine norm_ (a' := ?_) ?_ ?_
                          rotate_left
                          · show Act.put _ (some 52) _ = _
                            simp only [Act.put, List.setIfInBounds_toArray, List.set_cons_zero, List.set_cons_succ, i64_w, i32_w]
                            rfl
                          refine pure_ (i := 6) (N := some 53) (v := ?_) (a' := ?_) #[true, true, true, true, true, true, true, false, false] rfl rfl (any_of HT_.out (by kernel_rfl)) (fun _ _ _ h => h) (Or.inl ⟨by rfl, ?_⟩) ?_ ?_
                          rotate_left
                          · intro w'
                            go_simp
                            with_reducible rfl
                          rotate_left
                          · simp only [Act.put, List.setIfInBounds_toArray, List.set_cons_zero, List.set_cons_succ, i64_w, i32_w]
                            rfl
                          refine one_ (i := 7) (N := none) #[true, true, true, true, true, true, true, true, false] rfl rfl (one_of HT_.out (by kernel_rfl)) (by decide) (fun K hK => ?_)
                          have hs41 : w40.cell? ⟨gb165, 0, none⟩ = some (.int .i64 0) := (blk_cell BK165.out 0).trans rfl
                          have hfs41 := blk_frozen BK165.out 0
                          have hs42 : w40.cell? ⟨gb165, 1, none⟩ = some (.int .i64 0) := (blk_cell BK165.out 1).trans rfl
                          have hfs42 := blk_frozen BK165.out 1
                          have hs43 : w40.cell? ⟨gb165, 2, none⟩ = some (.int .i64 0) := (blk_cell BK165.out 2).trans rfl
                          have hfs43 := blk_frozen BK165.out 2
                          refine skip_ (w1 := ?_) (by rfl) rfl ?_ ?_
                          rotate_left
                          · go_simp
                            rfl
                          refine hK.out _ _ trivial (fun hHeld => ?_)
                          clear hK K
                          refine pure_ (i := 8) (N := some 3) (v := ?_) (a' := ?_) #[true, true, true, true, true, true, true, true, true] rfl rfl (any_of HT_.out (by kernel_rfl)) (fun _ _ _ h => h) (Or.inl ⟨by rfl, ?_⟩) ?_ ?_
                          rotate_left
                          · intro w'
                            go_simp
                            with_reducible rfl
                          rotate_left
                          · simp only [Act.put, List.setIfInBounds_toArray, List.set_cons_zero, List.set_cons_succ, i64_w, i32_w]
                            rfl
                          refine done_ (done_of HT_.out (by kernel_rfl)) ?_
                          try go_wp2
                          refine bodyPost_ret (results_ct rfl _ _ gb165 23 #[.int .i64 2, .int .i64 t172, .int .i64 t171] (0, 0) _ rfl (by (with_reducible repeat (first | refine blk_drewN ?_ _ | refine blk_drew ?_ | refine blk_alloc ?_ _)); refine blk_put (cs := #[.int .i64 2, .int .i64 t172, .int .i64 0]) ?_ 2 _ rfl; (with_reducible repeat (first | refine blk_drewN ?_ _ | refine blk_drew ?_ | refine blk_alloc ?_ _)); refine blk_put (cs := #[.int .i64 2, .int .i64 0, .int .i64 0]) ?_ 1 _ rfl; (with_reducible repeat (first | refine blk_drewN ?_ _ | refine blk_drew ?_ | refine blk_alloc ?_ _)); refine blk_put (cs := #[.int .i64 0, .int .i64 0, .int .i64 0]) ?_ 0 _ rfl; (with_reducible repeat (first | refine blk_drewN ?_ _ | refine blk_drew ?_ | refine blk_alloc ?_ _)); exact BK165.out) Tryd.underlying23 rfl (by kernel_rfl)) rfl ?_
                          exact ⟨by first | rfl | (simp [errW_none, errW_some] <;> rfl) | (simp [*, errW_none, errW_some] <;> rfl), by repeat (first | (with_reducible first | exact HB.out | apply below_alloc | apply pw_below_drewN | apply below_drew1 | refine below_set ?_ GE165.out) | exact HB.out)⟩
                        · rw [if_neg c35] at H
                          exact absurd H (by simp)
                      · rw [if_neg c34] at H
                        exact absurd H (by simp)
                    · rw [if_neg c33] at H
                      have c33b0 : ((a0.extract 3 5).toList == ([62, 61] : List UInt8)) = false := beq_eq_false_iff_ne.mpr c33
                      have c33b1 : ((a0.extract 3 5).toList != ([62, 61] : List UInt8)) = true := bne_iff_ne.mpr c33
                      have c44b0 := eq_true (of_decide_eq_true (by first | (with_reducible assumption) | assumption) : 3 ≤ 5)
                      have c45b0 := eq_true (of_decide_eq_true (by first | (with_reducible assumption) | assumption) : 5 ≤ (a0.size : Int))
                      by_cases c46 : (a0.extract 3 5).toList = ([60, 61] : List UInt8)
                      · rw [if_pos c46] at H
                        have c46b0 : ((a0.extract 3 5).toList == ([60, 61] : List UInt8)) = true := beq_iff_eq.mpr c46
                        have c46b1 : ((a0.extract 3 5).toList != ([60, 61] : List UInt8)) = false := bne_eq_false_iff_eq.mpr c46
                        clear c46
                        by_cases c47 : 0 ≤ 3
                        · rw [if_pos c47] at H
                          have c47b0 := eq_true c47
                          have c47b1 : decide (0 ≤ 3) = true := decide_eq_true c47
                          clear c47
                          by_cases c48 : 3 ≤ (a0.size : Int)
                          · rw [if_pos c48] at H
                            have c48b0 := eq_true c48
                            have c48b1 : decide (3 ≤ (a0.size : Int)) = true := decide_eq_true c48
                            clear c48
                            replace H := Option.bind_eq_some_iff.mp H
                            obtain ⟨t173, A490, H⟩ := H
                            replace H : ((noonmarkref06_number.f kj19 (a0.extract 5 a0.size)).bind fun t174 => (some (3, t174, t173, 0))) = some (r1, r2, r3, r4) := H
                            have A49 := Aside0.mk A490
                            clear A490
                            have c50b0 := eq_true (of_decide_eq_true (by first | (with_reducible assumption) | assumption) : 5 ≤ (a0.size : Int))
                            replace H := Option.bind_eq_some_iff.mp H
                            obtain ⟨t174, A510, H⟩ := H
                            replace H : (some (3, t174, t173, 0)) = some (r1, r2, r3, r4) := H
                            have A51 := Aside0.mk A510
                            clear A510
                            simp only [Option.some.injEq, Prod.mk.injEq] at H
                            obtain ⟨rfl, rfl, rfl, rfl⟩ := H
                            try go_wp2
                            have n0_ := Aside0.mk (blk_drew BK165.out)
                            have n1_ := Aside0.mk (below_drew1 HB.out)
                            clear BK165
                            clear HB
                            have BK165 := n0_
                            have HB := n1_
                            clear n0_ n1_
                            refine start_ (n := 9) (S := fun w' => True) (ds := []) #[false, false, false, false, false, false, false, false, false] (by kernel_rfl) rfl rfl trivial (fun hHeld => ?_); refine with_tabW noonmarkref06_Parse.tab10 noonmarkref06_Parse.bits10 (fun HT_ HW_ => ?_)
                            generalize wc.drew = w52 at BK165 HB hHeld ⊢
                            refine pure_ (i := 0) (N := some 57) (v := ?_) (a' := ?_) #[true, false, false, false, false, false, false, false, false] rfl rfl (any_of HT_.out (by kernel_rfl)) (fun _ _ _ h => h) (Or.inl ⟨by rfl, ?_⟩) ?_ ?_
                            rotate_left
                            · intro w'
                              go_simp
                              with_reducible rfl
                            rotate_left
                            · simp only [Act.put, List.setIfInBounds_toArray, List.set_cons_zero, List.set_cons_succ, i64_w, i32_w]
                              rfl
                            refine pure_ (i := 1) (N := some 58) (v := ?_) (a' := ?_) #[true, true, false, false, false, false, false, false, false] rfl rfl (any_of HT_.out (by kernel_rfl)) (fun _ _ _ h => h) (Or.inl ⟨by rfl, ?_⟩) ?_ ?_
                            rotate_left
                            · intro w'
                              go_simp
                              with_reducible rfl
                            rotate_left
                            · simp only [Act.put, List.setIfInBounds_toArray, List.set_cons_zero, List.set_cons_succ, i64_w, i32_w]
                              rfl
                            refine pure_ (i := 3) (N := some 60) (v := ?_) (a' := ?_) #[true, true, false, true, false, false, false, false, false] rfl rfl (any_of HT_.out (by kernel_rfl)) (fun _ _ _ h => h) (Or.inl ⟨by rfl, ?_⟩) ?_ ?_
                            rotate_left
                            · intro w'
                              go_simp
                              with_reducible rfl
                            rotate_left
                            · simp only [Act.put, List.setIfInBounds_toArray, List.set_cons_zero, List.set_cons_succ, i64_w, i32_w]
                              rfl
                            refine pure_ (i := 4) (N := some 61) (v := ?_) (a' := ?_) #[true, true, false, true, true, false, false, false, false] rfl rfl (any_of HT_.out (by kernel_rfl)) (fun _ _ _ h => h) (Or.inl ⟨by rfl, ?_⟩) ?_ ?_
                            rotate_left
                            · intro w'
                              go_simp
                              with_reducible rfl
                            rotate_left
                            · simp only [Act.put, List.setIfInBounds_toArray, List.set_cons_zero, List.set_cons_succ, i64_w, i32_w]
                              rfl
                            refine one_ (i := 2) (N := some 59) #[true, true, true, true, true, false, false, false, false] rfl rfl (one_of HT_.out (by kernel_rfl)) (by decide) (fun K hK => ?_)
                            refine goes_ Tryd.func17 (by kernel_rfl) rfl #[.string (a0.extract 0 3)] (by rfl) rfl rfl (by (try simp only [List.map_toArray, List.map_cons, List.map_nil]); first | done | rfl | (simp only [List.length_drop, List.length_take]; rfl)) ?_
                            with_reducible refine (noonmarkref06_name.calls kj19 (a0.extract 0 3) t173 _ ?side1 A49.out).mono ?_
                            (case side1 => exact GOK.below hG (by repeat (first | (with_reducible first | exact HB.out | apply below_alloc | apply pw_below_drewN | apply below_drew1 | refine below_set ?_ GE165.out) | exact HB.out)))
                            rintro e w53 ⟨rfl, hb⟩
                            refine ⟨_, rfl, ?_⟩
                            have n0_ := Aside0.mk (blk_below (g := gb165) (o := .cells #[.int .i64 0, .int .i64 0, .int .i64 0] 23 (0, 0)) (by (with_reducible repeat (first | refine blk_drewN ?_ _ | refine blk_drew ?_ | refine blk_alloc ?_ _)); exact BK165.out) hb)
                            have n1_ := Aside0.mk (below_step (by repeat (first | (with_reducible first | exact HB.out | apply below_alloc | apply pw_below_drewN | apply below_drew1 | refine below_set ?_ GE165.out) | exact HB.out)) hb)
                            clear BK165
                            clear HB
                            have BK165 := n0_
                            have HB := n1_
                            clear n0_ n1_
                            (try clear hb)
                            (try clear hb2)
                            (try clear hk)
                            (try clear hi)
                            refine hK.out _ _ trivial (fun hHeld => ?_)
                            clear hK K
                            refine norm_ (a' := ?_) ?_ ?_
                            rotate_left
                            · show Act.put _ (some 59) _ = _
                              simp only [Act.put, List.setIfInBounds_toArray, List.set_cons_zero, List.set_cons_succ, i64_w, i32_w]
                              rfl
                            refine one_ (i := 5) (N := some 62) #[true, true, true, true, true, true, false, false, false] rfl rfl (one_of HT_.out (by kernel_rfl)) (by decide) (fun K hK => ?_)
                            refine goes_ Tryd.func16 (by kernel_rfl) rfl #[.string (a0.extract 5 a0.size)] (by rfl) rfl rfl (by (try simp only [List.map_toArray, List.map_cons, List.map_nil]); first | done | rfl | (simp only [List.length_drop, List.length_take]; rfl)) ?_
                            with_reducible refine (noonmarkref06_number.calls kj19 (a0.extract 5 a0.size) t174 _ ?side1 A51.out).mono ?_
                            (case side1 => exact GOK.below hG (by repeat (first | (with_reducible first | exact HB.out | apply below_alloc | apply pw_below_drewN | apply below_drew1 | refine below_set ?_ GE165.out) | exact HB.out)))
                            rintro e w' ⟨rfl, ⟨nd, rfl⟩⟩
                            refine ⟨_, rfl, ?_⟩
                            refine hK.out _ _ trivial (fun hHeld => ?_)
                            clear hK K
                            refine norm_ (a' := ?_) ?_ ?_
                            rotate_left
                            · show Act.put _ (some 62) _ = _
                              simp only [Act.put, List.setIfInBounds_toArray, List.set_cons_zero, List.set_cons_succ, i64_w, i32_w]
                              rfl
                            refine pure_ (i := 6) (N := some 63) (v := ?_) (a' := ?_) #[true, true, true, true, true, true, true, false, false] rfl rfl (any_of HT_.out (by kernel_rfl)) (fun _ _ _ h => h) (Or.inl ⟨by rfl, ?_⟩) ?_ ?_
                            rotate_left
                            · intro w'
                              go_simp
                              with_reducible rfl
                            rotate_left
                            · simp only [Act.put, List.setIfInBounds_toArray, List.set_cons_zero, List.set_cons_succ, i64_w, i32_w]
                              rfl
                            refine one_ (i := 7) (N := none) #[true, true, true, true, true, true, true, true, false] rfl rfl (one_of HT_.out (by kernel_rfl)) (by decide) (fun K hK => ?_)
                            have hs54 : w53.cell? ⟨gb165, 0, none⟩ = some (.int .i64 0) := (blk_cell BK165.out 0).trans rfl
                            have hfs54 := blk_frozen BK165.out 0
                            have hs55 : w53.cell? ⟨gb165, 1, none⟩ = some (.int .i64 0) := (blk_cell BK165.out 1).trans rfl
                            have hfs55 := blk_frozen BK165.out 1
                            have hs56 : w53.cell? ⟨gb165, 2, none⟩ = some (.int .i64 0) := (blk_cell BK165.out 2).trans rfl
                            have hfs56 := blk_frozen BK165.out 2
                            refine skip_ (w1 := ?_) (by rfl) rfl ?_ ?_
                            rotate_left
                            · go_simp
                              rfl
                            refine hK.out _ _ trivial (fun hHeld => ?_)
                            clear hK K
                            refine pure_ (i := 8) (N := some 3) (v := ?_) (a' := ?_) #[true, true, true, true, true, true, true, true, true] rfl rfl (any_of HT_.out (by kernel_rfl)) (fun _ _ _ h => h) (Or.inl ⟨by rfl, ?_⟩) ?_ ?_
                            rotate_left
                            · intro w'
                              go_simp
                              with_reducible rfl
                            rotate_left
                            · simp only [Act.put, List.setIfInBounds_toArray, List.set_cons_zero, List.set_cons_succ, i64_w, i32_w]
                              rfl
                            refine done_ (done_of HT_.out (by kernel_rfl)) ?_
                            try go_wp2
                            refine bodyPost_ret (results_ct rfl _ _ gb165 23 #[.int .i64 3, .int .i64 t174, .int .i64 t173] (0, 0) _ rfl (by (with_reducible repeat (first | refine blk_drewN ?_ _ | refine blk_drew ?_ | refine blk_alloc ?_ _)); refine blk_put (cs := #[.int .i64 3, .int .i64 t174, .int .i64 0]) ?_ 2 _ rfl; (with_reducible repeat (first | refine blk_drewN ?_ _ | refine blk_drew ?_ | refine blk_alloc ?_ _)); refine blk_put (cs := #[.int .i64 3, .int .i64 0, .int .i64 0]) ?_ 1 _ rfl; (with_reducible repeat (first | refine blk_drewN ?_ _ | refine blk_drew ?_ | refine blk_alloc ?_ _)); refine blk_put (cs := #[.int .i64 0, .int .i64 0, .int .i64 0]) ?_ 0 _ rfl; (with_reducible repeat (first | refine blk_drewN ?_ _ | refine blk_drew ?_ | refine blk_alloc ?_ _)); exact BK165.out) Tryd.underlying23 rfl (by kernel_rfl)) rfl ?_
                            exact ⟨by first | rfl | (simp [errW_none, errW_some] <;> rfl) | (simp [*, errW_none, errW_some] <;> rfl), by repeat (first | (with_reducible first | exact HB.out | apply below_alloc | apply pw_below_drewN | apply below_drew1 | refine below_set ?_ GE165.out) | exact HB.out)⟩
                          · rw [if_neg c48] at H
                            exact absurd H (by simp)
                        · rw [if_neg c47] at H
                          exact absurd H (by simp)
                      · rw [if_neg c46] at H
                        have c46b0 : ((a0.extract 3 5).toList == ([60, 61] : List UInt8)) = false := beq_eq_false_iff_ne.mpr c46
                        have c46b1 : ((a0.extract 3 5).toList != ([60, 61] : List UInt8)) = true := bne_iff_ne.mpr c46
                        simp only [Option.some.injEq, Prod.mk.injEq] at H
                        obtain ⟨rfl, rfl, rfl, rfl⟩ := H
                        have hcz57_0 : wc.cell? ⟨gb165, 0, none⟩ = some (.int .i64 0) := (blk_cell BK165.out 0).trans rfl
                        have hcz57_1 : wc.cell? ⟨gb165, 1, none⟩ = some (.int .i64 0) := (blk_cell BK165.out 1).trans rfl
                        have hcz57_2 : wc.cell? ⟨gb165, 2, none⟩ = some (.int .i64 0) := (blk_cell BK165.out 2).trans rfl
                        have hfz57_0 := blk_frozen BK165.out 0
                        have hfz57_1 := blk_frozen BK165.out 1
                        have hfz57_2 := blk_frozen BK165.out 2
                        go_wp2
                        refine bodyPost_ret (results_ct rfl _ _ gb165 23 #[.int .i64 0, .int .i64 0, .int .i64 0] (0, 0) _ rfl (by (with_reducible repeat (first | refine blk_drewN ?_ _ | refine blk_drew ?_ | refine blk_alloc ?_ _)); refine blk_put (cs := #[.int .i64 0, .int .i64 0, .int .i64 0]) ?_ 2 _ rfl; (with_reducible repeat (first | refine blk_drewN ?_ _ | refine blk_drew ?_ | refine blk_alloc ?_ _)); refine blk_put (cs := #[.int .i64 0, .int .i64 0, .int .i64 0]) ?_ 1 _ rfl; (with_reducible repeat (first | refine blk_drewN ?_ _ | refine blk_drew ?_ | refine blk_alloc ?_ _)); refine blk_put (cs := #[.int .i64 0, .int .i64 0, .int .i64 0]) ?_ 0 _ rfl; (with_reducible repeat (first | refine blk_drewN ?_ _ | refine blk_drew ?_ | refine blk_alloc ?_ _)); exact BK165.out) Tryd.underlying23 rfl (by kernel_rfl)) rfl ?_
                        exact ⟨by first | rfl | (simp [errW_none, errW_some] <;> rfl) | (simp [*, errW_none, errW_some] <;> rfl), by repeat (first | (with_reducible first | exact HB.out | apply below_alloc | apply pw_below_drewN | apply below_drew1 | refine below_set ?_ GE165.out) | exact HB.out)⟩
                  · rw [if_neg c32] at H
                    exact absurd H (by simp)
                · rw [if_neg c31] at H
                  exact absurd H (by simp)
              · replace c30 := Bool.eq_false_iff.mpr c30
                subst c30
                have H1 : (some (0, 0, 0, 6)) = some (r1, r2, r3, r4) := by rw [if_neg (show ¬ (false = true) by decide)] at H; exact H
                clear H
                have H := H1
                clear H1
                simp only [Option.some.injEq, Prod.mk.injEq] at H
                obtain ⟨rfl, rfl, rfl, rfl⟩ := H
                have hcz58_0 : wc.cell? ⟨gb165, 0, none⟩ = some (.int .i64 0) := (blk_cell BK165.out 0).trans rfl
                have hcz58_1 : wc.cell? ⟨gb165, 1, none⟩ = some (.int .i64 0) := (blk_cell BK165.out 1).trans rfl
                have hcz58_2 : wc.cell? ⟨gb165, 2, none⟩ = some (.int .i64 0) := (blk_cell BK165.out 2).trans rfl
                have hfz58_0 := blk_frozen BK165.out 0
                have hfz58_1 := blk_frozen BK165.out 1
                have hfz58_2 := blk_frozen BK165.out 2
                go_wp2
                refine bodyPost_ret (results_ct rfl _ _ gb165 23 #[.int .i64 0, .int .i64 0, .int .i64 0] (0, 0) _ rfl (by (with_reducible repeat (first | refine blk_drewN ?_ _ | refine blk_drew ?_ | refine blk_alloc ?_ _)); refine blk_put (cs := #[.int .i64 0, .int .i64 0, .int .i64 0]) ?_ 2 _ rfl; (with_reducible repeat (first | refine blk_drewN ?_ _ | refine blk_drew ?_ | refine blk_alloc ?_ _)); refine blk_put (cs := #[.int .i64 0, .int .i64 0, .int .i64 0]) ?_ 1 _ rfl; (with_reducible repeat (first | refine blk_drewN ?_ _ | refine blk_drew ?_ | refine blk_alloc ?_ _)); refine blk_put (cs := #[.int .i64 0, .int .i64 0, .int .i64 0]) ?_ 0 _ rfl; (with_reducible repeat (first | refine blk_drewN ?_ _ | refine blk_drew ?_ | refine blk_alloc ?_ _)); exact BK165.out) Tryd.underlying23 rfl (by kernel_rfl)) rfl ?_
                exact ⟨by first | rfl | (simp [errW_none, errW_some] <;> rfl) | (simp [*, errW_none, errW_some] <;> rfl), by repeat (first | (with_reducible first | exact HB.out | apply below_alloc | apply pw_below_drewN | apply below_drew1 | refine below_set ?_ GE165.out) | exact HB.out)⟩

end Go.Proofs.YtahpmeijinndhaaDoor.P

/-
  Plain laws of a day's text: what Parse and Show come to, in the program and in the document's answer.
-/
namespace Go.Proofs.YtahpmeijinndhaaDoor.P
open Go.RowKit Go.Proofs.YtahpmeijinndhaaDoorW.PrintWords
set_option linter.unusedVariables false

def nm (c : Int) : List UInt8 := if c = 0 then [83, 117, 110] else if c = 1 then [77, 111, 110] else if c = 2 then [84, 117, 101] else if c = 3 then [87, 101, 100] else if c = 4 then [84, 104, 117] else if c = 5 then [70, 114, 105] else if c = 6 then [83, 97, 116] else []
/-- The day of a name; -1: it is none. -/
def nameIx (l : List UInt8) : Int := if l = [83, 117, 110] then 0 else if l = [77, 111, 110] then 1 else if l = [84, 117, 101] then 2 else if l = [87, 101, 100] then 3 else if l = [84, 104, 117] then 4 else if l = [70, 114, 105] then 5 else if l = [83, 97, 116] then 6 else -1
theorem nameIx_cases (l : List UInt8) : (nameIx l = -1) ∨ (0 ≤ nameIx l ∧ nameIx l ≤ 6 ∧ l = nm (nameIx l)) := by
  unfold nameIx
  by_cases h0 : l = [83, 117, 110]
  · right; rw [if_pos h0]; exact ⟨by omega, by omega, h0⟩
  by_cases h1 : l = [77, 111, 110]
  · right; rw [if_neg h0, if_pos h1]; exact ⟨by omega, by omega, h1⟩
  by_cases h2 : l = [84, 117, 101]
  · right; rw [if_neg h0, if_neg h1, if_pos h2]; exact ⟨by omega, by omega, h2⟩
  by_cases h3 : l = [87, 101, 100]
  · right; rw [if_neg h0, if_neg h1, if_neg h2, if_pos h3]; exact ⟨by omega, by omega, h3⟩
  by_cases h4 : l = [84, 104, 117]
  · right; rw [if_neg h0, if_neg h1, if_neg h2, if_neg h3, if_pos h4]; exact ⟨by omega, by omega, h4⟩
  by_cases h5 : l = [70, 114, 105]
  · right; rw [if_neg h0, if_neg h1, if_neg h2, if_neg h3, if_neg h4, if_pos h5]; exact ⟨by omega, by omega, h5⟩
  by_cases h6 : l = [83, 97, 116]
  · right; rw [if_neg h0, if_neg h1, if_neg h2, if_neg h3, if_neg h4, if_neg h5, if_pos h6]; exact ⟨by omega, by omega, h6⟩
  left; rw [if_neg h0, if_neg h1, if_neg h2, if_neg h3, if_neg h4, if_neg h5, if_neg h6]
theorem seven (c : Int) (h : 0 ≤ c) (h' : c ≤ 6) : c = 0 ∨ c = 1 ∨ c = 2 ∨ c = 3 ∨ c = 4 ∨ c = 5 ∨ c = 6 := by omega
theorem nameIx_nm (c : Int) (h : 0 ≤ c) (h' : c ≤ 6) : nameIx (nm c) = c := by
  rcases seven c h h' with e | e | e | e | e | e | e <;> subst e <;> decide
theorem nm_len (c : Int) (h : 0 ≤ c) (h' : c ≤ 6) : (nm c).length = 3 := by
  rcases seven c h h' with e | e | e | e | e | e | e <;> subst e <;> decide
theorem nm_letter (c : Int) (j : Nat) (h : 0 ≤ c) (h' : c ≤ 6) (x : UInt8) (hx : x = 62 ∨ x = 60) : (nm c)[j]? ≠ some x := by
  rcases seven c h h' with e | e | e | e | e | e | e <;> subst e <;> rcases hx with hx | hx <;> subst hx <;> (match j with | 0 | 1 | 2 => decide | j + 3 => simp [nm])

/-- The number of a text of one or two digits; 0: it is none up to 31. -/
def numT (l : List UInt8) : Int := if l.length ≤ 2 ∧ l ≠ [] ∧ l.headD 0 ≠ 48 ∧ l.all isDig = true ∧ dval l 0 ≤ 31 then (dval l 0 : Int) else 0
theorem numT_bd (l : List UInt8) : 0 ≤ numT l ∧ numT l ≤ 31 := by unfold numT; split <;> omega

theorem numB_eq (l : List UInt8) : ∀ n : Nat, numB l (n : Int) = if l.all isDig = true then some (dval l n : Int) else none := by
  induction l with
  | nil => intro n; rfl
  | cons c r ih =>
    intro n
    rw [numB]
    by_cases h1 : (c.toNat : Int) < 48
    · rw [if_pos h1, if_neg]
      intro h
      rw [List.all_cons, Bool.and_eq_true] at h
      exact ((isDig_int c).1 h.1).1 h1
    · by_cases h2 : 57 < (c.toNat : Int)
      · rw [if_neg h1, if_pos h2, if_neg]
        intro h
        rw [List.all_cons, Bool.and_eq_true] at h
        exact ((isDig_int c).1 h.1).2 h2
      · rw [if_neg h1, if_neg h2, show (n : Int) * 10 + ((c.toNat : Int) - 48) = ((n * 10 + (c.toNat - 48) : Nat) : Int) by omega, ih]
        rw [List.all_cons, (isDig_int c).2 ⟨h1, h2⟩, Bool.true_and]
        rfl

theorem dval_pos (l : List UInt8) (h : l ≠ []) (hd : l.all isDig = true) (h0 : l.headD 0 ≠ 48) : 1 ≤ dval l 0 := by
  match l, h with
  | c :: r, _ =>
    rw [List.all_cons, Bool.and_eq_true] at hd
    have := (isDig_int c).1 hd.1
    have h1 : c.toNat ≠ 48 := fun e => h0 (UInt8.toNat_inj.1 e)
    exact Nat.le_trans (by omega) (dval_ge r (0 * 10 + (c.toNat - 48)))
theorem dval_big (l : List UInt8) (h : 3 ≤ l.length) (hd : l.all isDig = true) (h0 : l.headD 0 ≠ 48) : 100 ≤ dval l 0 := by
  match l, h with
  | c :: d :: e :: r, _ =>
    simp only [List.all_cons, Bool.and_eq_true] at hd
    have := (isDig_int c).1 hd.1
    have h1 : c.toNat ≠ 48 := fun e => h0 (UInt8.toNat_inj.1 e)
    exact Nat.le_trans (by omega) (dval_ge r (((0 * 10 + (c.toNat - 48)) * 10 + (d.toNat - 48)) * 10 + (e.toNat - 48)))

theorem dayform_number_eq (s : ByteArray) : ∃ n b, dayform_number.f s = some (n, b) ∧ (b = true ↔ 0 < numT (lst s)) ∧ (b = true → n = numT (lst s)) := by
  have hl := lst_len s
  unfold dayform_number.f
  by_cases h1 : 2 < s.size
  · rw [if_pos h1]
    refine ⟨_, _, rfl, ?_, by simp⟩
    have : numT (lst s) = 0 := by unfold numT; rw [if_neg (by omega)]
    simp [this]
  rw [if_neg h1]
  by_cases h2 : s.size = 0
  · rw [if_pos h2]
    refine ⟨_, _, rfl, ?_, by simp⟩
    have : numT (lst s) = 0 := by unfold numT; rw [if_neg (fun h => h.2.1 (List.eq_nil_of_length_eq_zero (by omega)))]
    simp [this]
  rw [if_neg h2]
  have hne : lst s ≠ [] := fun e => h2 (by rw [← hl, e]; rfl)
  by_cases h3 : bt s 0 = 48
  · rw [if_pos h3]
    rw [headD_bt] at h3
    refine ⟨_, _, rfl, ?_, by simp⟩
    have : numT (lst s) = 0 := by unfold numT; rw [if_neg (fun h => h.2.2.1 ((u8_48 _).1 h3))]
    simp [this]
  rw [if_neg h3]
  rw [headD_bt] at h3
  have h4 : (lst s).headD 0 ≠ 48 := fun e => h3 ((u8_48 _).2 e)
  unfold numR
  have hB := numB_eq (lst s) 0
  rw [show ((0 : Nat) : Int) = 0 from rfl] at hB
  rw [hB]
  by_cases h5 : (lst s).all isDig = true
  · rw [if_pos h5]
    refine ⟨_, _, rfl, ?_, ?_⟩
    · have hp := dval_pos _ hne h5 h4
      unfold numT
      by_cases h6 : dval (lst s) 0 ≤ 31
      · rw [if_pos ⟨by omega, hne, h4, h5, h6⟩]; simp; omega
      · rw [if_neg (fun h => h6 h.2.2.2.2)]; simp; omega
    · intro hb
      have h6 : dval (lst s) 0 ≤ 31 := by simp at hb; omega
      unfold numT
      rw [if_pos ⟨by omega, hne, h4, h5, h6⟩]
  · rw [if_neg h5]
    refine ⟨_, _, rfl, ?_, by simp⟩
    have : numT (lst s) = 0 := by unfold numT; rw [if_neg (fun h => h5 h.2.2.2.1)]
    simp [this]

/-- The number from 1 to 31, or 0, of what ParseInt answers. -/
def num31 (p : Int × Int) : Int := if p.2 = 0 then (if p.1 < 1 then 0 else if p.1 > 31 then 0 else p.1) else 0
theorem num31_val (v : Int) : num31 (v, 0) = if v < 1 then 0 else if v > 31 then 0 else v := rfl
theorem pint2_low (l : List UInt8) : num31 (pint2 l true) = 0 := by
  unfold pint2
  split
  · rfl
  split
  · rfl
  split
  · rfl
  split
  · rfl
  rw [if_pos rfl, num31_val, if_pos (by omega)]
theorem pint2_high (l : List UInt8) : num31 (pint2 l false) = numT l := by
  by_cases hne : l = []
  · rw [hne]; rfl
  by_cases h1 : l.all isDig = true
  · by_cases h48 : l.headD 0 = 48
    · have hT : numT l = 0 := by unfold numT; rw [if_neg (fun h => h.2.2.1 h48)]
      rw [hT]
      by_cases hlen : 1 < l.length
      · unfold pint2
        rw [if_pos (Or.inr ⟨h48, Or.inl hlen⟩)]; rfl
      · match l, hne, hlen with
        | [c], _, _ =>
          have e : c = 48 := h48
          subst e
          decide
        | _ :: _ :: _, _, h => simp at h
    · have hp := dval_pos l hne h1 h48
      have hP : pint2 l false = if 19 < l.length then (0, 2) else if 9223372036854775808 < dval l 0 then (0, 2) else if 9223372036854775807 < dval l 0 then (0, 2) else ((dval l 0 : Int), 0) := by
        unfold pint2
        rw [if_neg (by rintro (h | ⟨h, _⟩); exact hne h; exact h48 h), if_neg (by rw [h1]; decide)]
        rfl
      rw [hP]
      by_cases hl : 3 ≤ l.length
      · have hb := dval_big l hl h1 h48
        have hT : numT l = 0 := by unfold numT; rw [if_neg (fun h => by have := h.1; omega)]
        rw [hT]
        split
        · rfl
        split
        · rfl
        split
        · rfl
        rw [num31_val, if_neg (by omega), if_pos (by omega)]
      · have hs : dval l 0 ≤ 99 := by
          match l, hne, hl with
          | [c], _, _ =>
            have := (isDig_int c).1 (by simpa using h1)
            simp only [dval]; omega
          | [c, d], _, _ =>
            simp only [List.all_cons, Bool.and_eq_true] at h1
            have := (isDig_int c).1 h1.1
            have := (isDig_int d).1 h1.2.1
            simp only [dval]; omega
          | _ :: _ :: _ :: _, _, h => simp at h
        have ha : ¬ 19 < l.length := by omega
        have hb : ¬ 9223372036854775808 < dval l 0 := by omega
        have hc : ¬ 9223372036854775807 < dval l 0 := by omega
        rw [if_neg ha, if_neg hb, if_neg hc, num31_val, if_neg (by omega)]
        unfold numT
        by_cases h6 : dval l 0 ≤ 31
        · rw [if_neg (by omega), if_pos ⟨by omega, hne, h48, h1, h6⟩]
        · rw [if_pos (by omega), if_neg (fun h => h6 h.2.2.2.2)]
  · have hT : numT l = 0 := by unfold numT; rw [if_neg (fun h => h1 h.2.2.2.1)]
    rw [hT]
    unfold pint2
    split
    · rfl
    rw [if_pos (by simpa using h1)]
    rfl
theorem pint_num (l : List UInt8) : num31 (pintP l) = numT l := by
  unfold pintP
  by_cases hm : l.headD 0 = 45
  · rw [if_pos hm, pint2_low]
    unfold numT
    rw [if_neg]
    rintro ⟨_, h1, _, h2, _⟩
    match l, h1 with
    | c :: r, _ =>
      rw [List.all_cons, Bool.and_eq_true] at h2
      have e : c = 45 := hm
      rw [e] at h2
      exact absurd h2.1 (by decide)
  · rw [if_neg hm, pint2_high]
theorem noonmarkref06_number_eq (s : ByteArray) (k : Nat) (hb : s.size ≤ 9223372036854775000) (hk : s.size + 30 < k) : noonmarkref06_number.f k s = some (numT (lst s)) := by
  unfold noonmarkref06_number.f
  rw [noonmarkref02_ParseInt_eq s k hb hk]
  simp only [Option.bind_some]
  rw [← pint_num]
  unfold num31
  by_cases h : (pintP (lst s)).2 = 0
  · rw [if_pos h, if_pos h]
    by_cases h1 : (pintP (lst s)).1 < 1
    · rw [if_pos h1, if_pos h1]
    · rw [if_neg h1, if_neg h1]
      by_cases h2 : (pintP (lst s)).1 > 31
      · rw [if_pos h2, if_pos h2]
      · rw [if_neg h2, if_neg h2]
  · rw [if_neg h, if_neg h]

def ixFrom : List (List UInt8) → List UInt8 → Int → Int
  | [], _, _ => -1
  | x :: r, l, i => if x = l then i else ixFrom r l (i + 1)
theorem name_l0 (s : ByteArray) (L : List ByteArray) (hL : L.length ≤ 1000) (d : Nat) : ∀ (k i : Nat), i + d = L.length → d < k →
    noonmarkref06_name.l0 k s L (i : Int) = some (ixFrom ((L.drop i).map lst) (lst s) (i : Int)) := by
  induction d with
  | zero =>
    intro k i hi hk
    obtain ⟨k, rfl⟩ : ∃ m, k = m + 1 := ⟨k - 1, by omega⟩
    simp only [noonmarkref06_name.l0]
    rw [if_neg (by omega), List.drop_of_length_le (by omega)]
    rfl
  | succ d ih =>
    intro k i hi hk
    obtain ⟨k, rfl⟩ : ∃ m, k = m + 1 := ⟨k - 1, by omega⟩
    have hlt : i < L.length := by omega
    simp only [noonmarkref06_name.l0]
    have e : rdOf ByteArray.empty L (i : Int) = L[i] := by unfold rdOf; rw [Int.toNat_natCast, List.getD_eq_getElem?_getD, List.getElem?_eq_getElem hlt]; rfl
    rw [if_pos (by omega), if_pos (by omega), e, List.drop_eq_getElem_cons hlt, List.map_cons, ixFrom, toList_lst, toList_lst]
    by_cases h : lst L[i] = lst s
    · rw [if_pos h, if_pos h]
    · rw [if_neg h, if_neg h, IntWalk.wrap64_in _ (by omega), show ((i : Int) + 1) = ((i + 1 : Nat) : Int) by omega]
      exact ih k (i + 1) (by omega) (by omega)
theorem nameIx_from (l : List UInt8) : ixFrom (names06.map lst) l 0 = nameIx l := by
  show ixFrom [[83, 117, 110], [77, 111, 110], [84, 117, 101], [87, 101, 100], [84, 104, 117], [70, 114, 105], [83, 97, 116]] l 0 = nameIx l
  simp only [ixFrom, nameIx, eq_comm (b := l)]
  rfl
theorem noonmarkref06_name_eq (s : ByteArray) (k : Nat) (hk : 9 ≤ k) : noonmarkref06_name.f k s = some (nameIx (lst s)) := by
  unfold noonmarkref06_name.f noonmarkref06_names.f
  simp only [Option.bind_some]
  rw [← nameIx_from]
  exact name_l0 s names06 (by decide) 7 k 0 rfl (by omega)

theorem week_ix (l : List UInt8) (h : l.length = 3) (i : Nat) (hi : i < 19) (hm : i % 3 = 0) (ho : l = (List.drop i [83, 117, 110, 77, 111, 110, 84, 117, 101, 87, 101, 100, 84, 104, 117, 70, 114, 105, 83, 97, 116]).take 3) : nameIx l = ((i / 3 : Nat) : Int) := by
  have : i = 0 ∨ i = 3 ∨ i = 6 ∨ i = 9 ∨ i = 12 ∨ i = 15 ∨ i = 18 := by omega
  rcases this with e | e | e | e | e | e | e <;> subst e <;> subst ho <;> decide
abbrev week06 : List UInt8 := [83, 117, 110, 77, 111, 110, 84, 117, 101, 87, 101, 100, 84, 104, 117, 70, 114, 105, 83, 97, 116]
theorem week_nm (c : Int) (h : 0 ≤ c) (h' : c ≤ 6) : Lib.index week06 (nm c) = 3 * c := by
  rcases seven c h h' with e | e | e | e | e | e | e <;> subst e <;> decide +kernel
theorem index_occ : ∀ {s sub : List UInt8} {i : Nat}, Lib.index s sub = (i : Int) → Lib.occAt s sub i = true ∧ i ≤ s.length
  | [], sub, i, h => by
    cases sub with
    | nil =>
      have : (0 : Int) = (i : Int) := h
      have : i = 0 := by omega
      subst this
      exact ⟨rfl, Nat.le_refl _⟩
    | cons a r =>
      have : (-1 : Int) = (i : Int) := h
      omega
  | b :: l, sub, i, h => by
    unfold Lib.index at h
    by_cases hp : sub.isPrefixOf (b :: l) = true
    · rw [if_pos hp] at h
      have : i = 0 := by omega
      subst this
      exact ⟨by simpa [Lib.occAt] using hp, Nat.zero_le _⟩
    · rw [if_neg hp] at h
      by_cases h1 : (Lib.index l sub == -1) = true
      · rw [if_pos h1] at h; omega
      · rw [if_neg h1] at h
        have hg := Lib.index_ge l sub
        have hn : Lib.index l sub ≠ -1 := fun e => h1 (by rw [e]; rfl)
        obtain ⟨j, hj⟩ : ∃ j : Nat, Lib.index l sub = (j : Int) := ⟨(Lib.index l sub).toNat, by omega⟩
        have hi : i = j + 1 := by omega
        subst hi
        obtain ⟨h2, h3⟩ := index_occ hj
        exact ⟨by simpa [Lib.occAt] using h2, by simpa using h3⟩
theorem occ_take {s sub : List UInt8} {i : Nat} (h : Lib.occAt s sub i = true) : (s.drop i).take sub.length = sub := by
  unfold Lib.occAt at h
  obtain ⟨t, ht⟩ := List.isPrefixOf_iff_prefix.1 h
  rw [← ht]
  simp
theorem take_occ {s sub : List UInt8} {i : Nat} (h : (s.drop i).take sub.length = sub) : Lib.occAt s sub i = true := by
  unfold Lib.occAt
  rw [List.isPrefixOf_iff_prefix]
  exact ⟨(s.drop i).drop sub.length, by conv => { lhs; lhs; rw [← h] }; exact List.take_append_drop _ _⟩

theorem dayform_day_eq (s : ByteArray) : ∃ w b, dayform_day.f s = some (w, b) ∧ (b = true ↔ 0 ≤ nameIx (lst s)) ∧ (b = true → w = nameIx (lst s)) := by
  have hl := lst_len s
  unfold dayform_day.f strings_Index.f
  rw [if_pos (by decide)]
  simp only [Option.bind_some]
  have hge := Lib.index_ge week06 (lst s)
  generalize hix : Lib.index _ s.data.toList = ix
  have hix' : Lib.index week06 (lst s) = ix := hix
  rw [hix'] at hge
  rcases nameIx_cases (lst s) with hn | ⟨hn0, hn1, hn2⟩
  · have hno : ∀ (q : Prop), (0 ≤ nameIx (lst s)) → q := fun q h => by omega
    by_cases h3 : (s.size : Int) = 3
    · rw [if_pos h3]
      by_cases h0 : ix ≥ 0
      · rw [if_pos h0]
        refine ⟨_, _, rfl, ⟨fun hb => ?_, hno _⟩, fun hb => ?_⟩
        all_goals
          exfalso
          rw [tmod_nn h0] at hb
          obtain ⟨i, rfl⟩ : ∃ i : Nat, ix = (i : Int) := ⟨ix.toNat, by omega⟩
          obtain ⟨ho, hi⟩ := index_occ hix'
          have ht := occ_take ho
          have hm : i % 3 = 0 := by have := beq_iff_eq.1 hb; omega
          have hlen : (lst s).length = 3 := by omega
          rw [hlen] at ht
          have hi19 : i < 19 := by
            have := congrArg List.length ht
            simp only [List.length_take, List.length_drop, List.length_cons, List.length_nil] at this
            omega
          have := week_ix (lst s) hlen i hi19 hm ht.symm
          omega
      · rw [if_neg h0]
        exact ⟨_, _, rfl, ⟨(fun h => by cases h), hno _⟩, (fun h => by cases h)⟩
    · rw [if_neg h3]
      exact ⟨_, _, rfl, ⟨(fun h => by cases h), hno _⟩, (fun h => by cases h)⟩
  · have hlen := nm_len _ hn0 hn1
    rw [← hn2] at hlen
    have hix2 := week_nm _ hn0 hn1
    rw [← hn2, hix'] at hix2
    rw [if_pos (by omega), if_pos (by omega)]
    refine ⟨_, _, rfl, ⟨fun _ => hn0, fun _ => ?_⟩, fun _ => ?_⟩
    · rw [tmod_nn (by omega), beq_iff_eq]; omega
    · rw [tdiv_nn (by omega), IntWalk.wrap64_in _ (by omega)]; omega

/-- What a day's text comes to. -/
def sideP (l mark : List UInt8) : Bool := decide (5 < l.length ∧ 0 ≤ nameIx (l.take 3) ∧ (l.drop 3).take 2 = mark ∧ 0 < numT (l.drop 5))
theorem dayform_side_eq (s m : ByteArray) (kind : Int) (hs : s.size ≤ 4294967000) (hm : lst m = [62, 61] ∨ lst m = [60, 61]) :
    ∃ q n w b, dayform_side.f s m kind = some (q, n, w, b) ∧ (b = sideP (lst s) (lst m)) ∧ (b = true → q = kind ∧ n = numT ((lst s).drop 5) ∧ w = nameIx ((lst s).take 3)) := by
  have hl := lst_len s
  unfold dayform_side.f strings_Cut.f
  rw [if_pos (by omega)]
  simp only [Option.bind_some]
  have hml : (lst m).length = 2 := by rcases hm with h | h <;> rw [h] <;> rfl
  have hge := Lib.index_ge (lst s) (lst m)
  obtain ⟨w, bd, hd, hd1, hd2⟩ := dayform_day_eq ⟨(Lib.cut s.data.toList m.data.toList).1.toArray⟩
  obtain ⟨n, bn, hn, hn1, hn2⟩ := dayform_number_eq ⟨(Lib.cut s.data.toList m.data.toList).2.1.toArray⟩
  rw [hd, hn]
  simp only [Option.bind_some]
  rw [lst_mk] at hd1 hd2 hn1 hn2
  have hcut : Lib.cut s.data.toList m.data.toList = if 0 ≤ Lib.index (lst s) (lst m) then ((lst s).take (Lib.index (lst s) (lst m)).toNat, (lst s).drop ((Lib.index (lst s) (lst m)).toNat + (lst m).length), true) else (lst s, [], false) := rfl
  by_cases hi : 0 ≤ Lib.index (lst s) (lst m)
  · rw [if_pos hi] at hcut
    rw [hcut] at hd1 hd2 hn1 hn2 ⊢
    simp only at hd1 hd2 hn1 hn2 ⊢
    rw [if_pos trivial]
    obtain ⟨i, hie⟩ : ∃ i : Nat, Lib.index (lst s) (lst m) = (i : Int) := ⟨(Lib.index (lst s) (lst m)).toNat, by omega⟩
    rw [hie, Int.toNat_natCast] at hd1 hd2 hn1 hn2
    rw [hml] at hn1 hn2
    obtain ⟨ho, hile⟩ := index_occ hie
    have hot := occ_take ho
    rw [hml] at hot
    -- a name ahead of the mark: it stands at 3
    have key : bd = true → i = 3 := fun hb => by
      have h0 := hd1.1 hb
      rcases nameIx_cases ((lst s).take i) with h | ⟨_, h2, h3⟩
      · omega
      · have := congrArg List.length h3
        rw [nm_len _ h0 h2, List.length_take] at this
        omega
    by_cases hbd : bd = true
    · have hi3 := key hbd
      subst hi3
      rw [if_pos hbd]
      refine ⟨_, _, _, _, rfl, ?_, fun hb => ⟨rfl, hn2 hb, hd2 hbd⟩⟩
      unfold sideP
      rw [Bool.eq_iff_iff, hn1, decide_eq_true_iff]
      refine ⟨fun h => ⟨?_, hd1.1 hbd, hot, h⟩, fun h => h.2.2.2⟩
      have : (lst s).drop 5 ≠ [] := fun e => by rw [e] at h; exact absurd h (by decide)
      have : ¬ (lst s).length ≤ 5 := fun hle => this (List.drop_of_length_le hle)
      omega
    · rw [if_neg hbd]
      refine ⟨_, _, _, _, rfl, ?_, fun hb => by cases hb⟩
      symm
      unfold sideP
      rw [decide_eq_false_iff_not]
      rintro ⟨h5, hn0, hmk, _⟩
      -- then the first mark is at 3, and the name ahead of it is one
      apply hbd
      rw [hd1]
      have hi3 : i = 3 := by
        have hocc : Lib.occAt (lst s) (lst m) 3 = true := take_occ (by rw [hml]; exact hmk)
        have hno : ∀ j, j < 3 → Lib.occAt (lst s) (lst m) j = false := fun j hj => by
          rw [Bool.eq_false_iff]
          intro hj2
          have ht := occ_take hj2
          rw [hml] at ht
          rcases nameIx_cases ((lst s).take 3) with h | ⟨g0, g1, g2⟩
          · omega
          · have hx : ∃ x : UInt8, (x = 62 ∨ x = 60) ∧ (lst m)[0]? = some x := by rcases hm with h | h <;> rw [h]; exact ⟨62, Or.inl rfl, rfl⟩; exact ⟨60, Or.inr rfl, rfl⟩
            obtain ⟨x, hx, hmx⟩ := hx
            have e1 : (lst s)[j]? = some x := by
              rw [← ht] at hmx
              rw [List.getElem?_take_of_lt (by omega), List.getElem?_drop] at hmx
              simpa using hmx
            have e2 : ((lst s).take 3)[j]? = some x := by rw [List.getElem?_take_of_lt hj]; exact e1
            rw [g2] at e2
            exact nm_letter _ j g0 g1 x hx e2
        have := Lib.index_first (s := lst s) (sub := lst m) (i := 3) (by omega) hocc hno
        omega
      rw [hi3]
      exact hn0
  · rw [if_neg hi] at hcut
    rw [hcut]
    simp only
    rw [if_neg (by decide)]
    refine ⟨_, _, _, _, rfl, ?_, fun hb => by cases hb⟩
    symm
    unfold sideP
    rw [decide_eq_false_iff_not]
    rintro ⟨h5, hn0, hmk, _⟩
    have hocc : Lib.occAt (lst s) (lst m) 3 = true := take_occ (by rw [hml]; exact hmk)
    apply hi
    have hex : ∀ j, j ≤ (lst s).length → Lib.occAt (lst s) (lst m) j = true → 0 ≤ Lib.index (lst s) (lst m) := fun j hj ho => by
      induction j using Nat.strongRecOn with
      | _ j ih =>
        by_cases hall : ∀ q, q < j → Lib.occAt (lst s) (lst m) q = false
        · rw [Lib.index_first hj ho hall]; omega
        · obtain ⟨q, hq⟩ := Classical.not_forall.1 hall
          obtain ⟨hq1, hq2⟩ := Classical.not_imp.1 hq
          exact ih q hq1 (by omega) (by simpa using hq2)
    exact hex 3 (by omega) hocc

/-- What a day's text comes to: kind, day, week; and 0, or 6 where there is none. -/
def parseP (l : List UInt8) : Int × Int × Int × Int :=
  if 0 < numT l then (0, numT l, 0, 0)
  else if l.take 4 = [108, 97, 115, 116] ∧ 0 ≤ nameIx (l.drop 4) then (1, 0, nameIx (l.drop 4), 0)
  else if sideP l [62, 61] = true then (2, numT (l.drop 5), nameIx (l.take 3), 0)
  else if sideP l [60, 61] = true then (3, numT (l.drop 5), nameIx (l.take 3), 0)
  else (0, 0, 0, 6)

theorem dayform_Parse_l0 (s : ByteArray) (k : Nat) (hs : s.size ≤ 4294967000) (hk : 3 ≤ k) : dayform_Parse.l0 k s 0 = some (if sideP (lst s) [62, 61] = true then (2, numT ((lst s).drop 5), nameIx ((lst s).take 3), 0)
    else if sideP (lst s) [60, 61] = true then (3, numT ((lst s).drop 5), nameIx ((lst s).take 3), 0) else (0, 0, 0, 6)) := by
  obtain ⟨k, rfl⟩ : ∃ m, k = m + 3 := ⟨k - 3, by omega⟩
  simp only [dayform_Parse.l0]
  obtain ⟨q1, n1, w1, b1, e1, h1, g1⟩ := dayform_side_eq s ⟨#[62, 61]⟩ 2 hs (Or.inl rfl)
  obtain ⟨q2, n2, w2, b2, e2, h2, g2⟩ := dayform_side_eq s ⟨#[60, 61]⟩ 3 hs (Or.inr rfl)
  have r1 : rdOf ByteArray.empty ([(⟨#[62, 61]⟩ : ByteArray), (⟨#[60, 61]⟩ : ByteArray)] : List ByteArray) 0 = ⟨#[62, 61]⟩ := rfl
  have r2 : rdOf ByteArray.empty ([(⟨#[62, 61]⟩ : ByteArray), (⟨#[60, 61]⟩ : ByteArray)] : List ByteArray) 1 = ⟨#[60, 61]⟩ := rfl
  have w01 : wrap64 (0 + 1) = 1 := IntWalk.wrap64_in _ (by omega)
  have w11 : wrap64 (1 + 1) = 2 := IntWalk.wrap64_in _ (by omega)
  have w20 : wrap64 (2 + 0) = 2 := IntWalk.wrap64_in _ (by omega)
  have w21 : wrap64 (2 + 1) = 3 := IntWalk.wrap64_in _ (by omega)
  rw [if_pos (by decide), if_pos (by decide), r1, w20, e1]
  simp only [Option.bind_some]
  have m1 : lst (⟨#[62, 61]⟩ : ByteArray) = [62, 61] := rfl
  have m2 : lst (⟨#[60, 61]⟩ : ByteArray) = [60, 61] := rfl
  rw [m1] at h1
  rw [m2] at h2
  rw [← h1, ← h2]
  by_cases hb1 : b1 = true
  · obtain ⟨rfl, rfl, rfl⟩ := g1 hb1
    rw [if_pos hb1, if_pos hb1]
  · rw [if_neg hb1, if_neg hb1, w01, if_pos (by decide), if_pos (by decide), r2, w21, e2]
    simp only [Option.bind_some]
    by_cases hb2 : b2 = true
    · obtain ⟨rfl, rfl, rfl⟩ := g2 hb2
      rw [if_pos hb2, if_pos hb2]
    · rw [if_neg hb2, if_neg hb2, w11, if_neg (by decide)]

theorem dayform_Parse_eq (s : ByteArray) (k : Nat) (hs : s.size ≤ 4294967000) (hk : 5 ≤ k) : dayform_Parse.f k s = some (parseP (lst s)) := by
  obtain ⟨k, rfl⟩ : ∃ m, k = m + 1 := ⟨k - 1, by omega⟩
  have hj : dayform_Parse.j0 (k + 1) s = some (if sideP (lst s) [62, 61] = true then (2, numT ((lst s).drop 5), nameIx ((lst s).take 3), 0)
    else if sideP (lst s) [60, 61] = true then (3, numT ((lst s).drop 5), nameIx ((lst s).take 3), 0) else (0, 0, 0, 6)) := by
    simp only [dayform_Parse.j0]
    exact dayform_Parse_l0 s k hs (by omega)
  unfold dayform_Parse.f parseP
  obtain ⟨n, b, e1, h1, g1⟩ := dayform_number_eq s
  rw [e1]
  simp only [Option.bind_some]
  by_cases hb : b = true
  · rw [if_pos hb, if_pos (h1.1 hb), g1 hb]
  · rw [if_neg hb, if_neg (fun h => hb (h1.2 h))]
    obtain ⟨r, c, e2, h2, g2, _⟩ := strings_CutPrefix_eq s ⟨#[108, 97, 115, 116]⟩
    have h2 : c = true ↔ (lst s).take 4 = [108, 97, 115, 116] := by rw [h2]; exact decide_eq_true_iff
    have g2 : c = true → lst r = (lst s).drop 4 := g2
    rw [e2]
    simp only [Option.bind_some]
    by_cases hc : c = true
    · rw [if_pos hc]
      obtain ⟨w, d, e3, h3, g3⟩ := dayform_day_eq r
      rw [e3]
      simp only [Option.bind_some]
      rw [g2 hc] at h3 g3
      by_cases hd : d = true
      · rw [if_pos hd, if_pos ⟨h2.1 hc, h3.1 hd⟩, g3 hd]
      · have hno : ¬ ((lst s).take 4 = [108, 97, 115, 116] ∧ 0 ≤ nameIx ((lst s).drop 4)) := fun h => hd (h3.2 h.2)
        rw [if_neg hd, if_neg hno, hj]
    · have hno : ¬ ((lst s).take 4 = [108, 97, 115, 116] ∧ 0 ≤ nameIx ((lst s).drop 4)) := fun h => hc (h2.2 h.1)
      rw [if_neg hc, if_neg hno, hj]

theorem sideP_false (l m : List UInt8) (h : ¬ (5 < l.length ∧ 0 ≤ nameIx (l.take 3) ∧ 0 < numT (l.drop 5))) : sideP l m = false := by
  unfold sideP
  rw [decide_eq_false_iff_not]
  exact fun g => h ⟨g.1, g.2.1, g.2.2.2⟩
theorem sideP_iff (l m : List UInt8) (h : 5 < l.length ∧ 0 ≤ nameIx (l.take 3) ∧ 0 < numT (l.drop 5)) : (sideP l m = true) ↔ (l.drop 3).take 2 = m := by
  unfold sideP
  rw [decide_eq_true_iff]
  exact ⟨fun g => g.2.2.1, fun g => ⟨h.1, h.2.1, g, h.2.2⟩⟩

theorem ref_Parse_j1f (s : ByteArray) (k : Nat) : noonmarkref06_Parse.j1 (k + 1) s false = some (0, 0, 0, 6) := by
  simp only [noonmarkref06_Parse.j1]
  rw [if_neg (by decide)]
theorem ref_Parse_j0f (s : ByteArray) (k : Nat) (hs : s.size ≤ 4294967000) (hk : s.size + 50 < k) : noonmarkref06_Parse.j0 (k + 1) s false = some (if sideP (lst s) [62, 61] = true then (2, numT ((lst s).drop 5), nameIx ((lst s).take 3), 0)
    else if sideP (lst s) [60, 61] = true then (3, numT ((lst s).drop 5), nameIx ((lst s).take 3), 0) else (0, 0, 0, 6)) := by
  obtain ⟨k, rfl⟩ : ∃ m, k = m + 1 := ⟨k - 1, by omega⟩
  have hl := lst_len s
  simp only [noonmarkref06_Parse.j0]
  rw [if_neg (by decide)]
  have hz5 : (s.extract 5 s.size).size ≤ s.size := by rw [← lst_len, lst_from, List.length_drop]; omega
  have n3 : ∀ k, 9 ≤ k → noonmarkref06_name.f k (s.extract 0 3) = some (nameIx ((lst s).take 3)) := fun k h => by
    rw [noonmarkref06_name_eq _ _ h, lst_extract]; simp
  have n5 : ∀ k, s.size + 30 < k → noonmarkref06_number.f k (s.extract 5 s.size) = some (numT ((lst s).drop 5)) := fun k h => by
    rw [noonmarkref06_number_eq _ _ (by omega) (by omega), lst_from]
  by_cases h5 : (s.size : Int) > 5
  · rw [if_pos h5, if_pos (by omega), if_pos (by omega), n3 _ (by omega)]
    simp only [Option.bind_some]
    by_cases hn : nameIx ((lst s).take 3) ≥ 0
    · rw [if_pos hn, if_pos (by omega), n5 _ (by omega)]
      simp only [Option.bind_some]
      by_cases hm : numT ((lst s).drop 5) > 0
      · rw [decide_eq_true hm]
        simp only [noonmarkref06_Parse.j1]
        rw [if_pos trivial, if_pos (by omega), if_pos (by omega), n3 _ (by omega), n5 _ (by omega)]
        simp only [Option.bind_some]
        have hall : 5 < (lst s).length ∧ 0 ≤ nameIx ((lst s).take 3) ∧ 0 < numT ((lst s).drop 5) := ⟨by omega, hn, hm⟩
        have e35 : lst (s.extract 3 5) = ((lst s).drop 3).take 2 := lst_extract s 3 5
        by_cases hA : ((lst s).drop 3).take 2 = [62, 61]
        · rw [if_pos (by rw [toList_lst, e35]; exact hA), if_pos (by omega), if_pos (by omega), if_pos ((sideP_iff _ _ hall).2 hA)]
        · rw [if_neg (by rw [toList_lst, e35]; exact hA), if_neg (fun h => hA ((sideP_iff _ _ hall).1 h))]
          by_cases hB : ((lst s).drop 3).take 2 = [60, 61]
          · rw [if_pos (by rw [toList_lst, e35]; exact hB), if_pos (by omega), if_pos (by omega), if_pos ((sideP_iff _ _ hall).2 hB)]
          · rw [if_neg (by rw [toList_lst, e35]; exact hB), if_neg (fun h => hB ((sideP_iff _ _ hall).1 h))]
      · rw [decide_eq_false hm, ref_Parse_j1f, sideP_false _ _ (fun h => hm h.2.2), sideP_false _ _ (fun h => hm h.2.2)]
        rfl
    · rw [if_neg hn, ref_Parse_j1f, sideP_false _ _ (fun h => hn h.2.1), sideP_false _ _ (fun h => hn h.2.1)]
      rfl
  · rw [if_neg h5, ref_Parse_j1f, sideP_false _ _ (fun h => by have := h.1; omega), sideP_false _ _ (fun h => by have := h.1; omega)]
    rfl

theorem noonmarkref06_Parse_eq (s : ByteArray) (k : Nat) (hs : s.size ≤ 4294967000) (hk : s.size + 60 < k) : noonmarkref06_Parse.f k s = some (parseP (lst s)) := by
  obtain ⟨k, rfl⟩ : ∃ m, k = m + 1 := ⟨k - 1, by omega⟩
  have hl := lst_len s
  unfold noonmarkref06_Parse.f parseP
  rw [noonmarkref06_number_eq s _ (by omega) (by omega)]
  simp only [Option.bind_some]
  by_cases hn : 0 < numT (lst s)
  · rw [if_pos hn, if_pos hn]
  · rw [if_neg hn, if_neg hn]
    have e4 : lst (s.extract 0 4) = (lst s).take 4 := by rw [lst_extract]; simp
    have n4 : ∀ k, 9 ≤ k → noonmarkref06_name.f k (s.extract 4 s.size) = some (nameIx ((lst s).drop 4)) := fun k h => by
      rw [noonmarkref06_name_eq _ _ h, lst_from]
    by_cases h7 : (s.size : Int) = 7
    · rw [if_pos h7, if_pos (by omega), if_pos (by omega), toList_lst, e4]
      by_cases hA : (lst s).take 4 = [108, 97, 115, 116]
      · rw [if_pos hA, n4 _ (by omega)]
        simp only [Option.bind_some]
        by_cases hB : nameIx ((lst s).drop 4) ≥ 0
        · rw [decide_eq_true hB, if_pos ⟨hA, hB⟩]
          simp only [noonmarkref06_Parse.j0]
          rw [if_pos trivial, if_pos (by omega), n4 _ (by omega)]
          rfl
        · have hno : ¬ ((lst s).take 4 = [108, 97, 115, 116] ∧ 0 ≤ nameIx ((lst s).drop 4)) := fun h => hB h.2
          rw [decide_eq_false hB, if_neg hno]
          exact ref_Parse_j0f s k hs (by omega)
      · have hno : ¬ ((lst s).take 4 = [108, 97, 115, 116] ∧ 0 ≤ nameIx ((lst s).drop 4)) := fun h => hA h.1
        rw [if_neg hA, if_neg hno]
        exact ref_Parse_j0f s k hs (by omega)
    · have hno : ¬ ((lst s).take 4 = [108, 97, 115, 116] ∧ 0 ≤ nameIx ((lst s).drop 4)) := fun h => by
        rcases nameIx_cases ((lst s).drop 4) with g | ⟨g0, g1, g2⟩
        · have := h.2; omega
        · have a := congrArg List.length g2
          have b := congrArg List.length h.1
          rw [nm_len _ g0 g1, List.length_drop] at a
          rw [List.length_take] at b
          simp at b
          omega
      rw [if_neg h7, if_neg hno]
      exact ref_Parse_j0f s k hs (by omega)

/-- The text of a day. -/
def showL (a b c : Int) : List UInt8 := if a = 0 then Lib.itoa b else if a = 1 then [108, 97, 115, 116] ++ nm c else if a = 2 then nm c ++ [62, 61] ++ Lib.itoa b else nm c ++ [60, 61] ++ Lib.itoa b
def showP (a b c : Int) : ByteArray × Int := if drightB a b c = true then (⟨(showL a b c).toArray⟩, 0) else (⟨#[]⟩, 1)
theorem drightB_iff (a b c : Int) : drightB a b c = true ↔ (0 ≤ a ∧ a ≤ 3 ∧ 0 ≤ c ∧ c ≤ 6 ∧ (a = 1 → b = 0) ∧ (a ≠ 1 → 1 ≤ b ∧ b ≤ 31) ∧ (a = 0 → c = 0)) := by unfold drightB; exact decide_eq_true_iff
theorem dayform_name_eq (c : Int) (h : 0 ≤ c) (h' : c ≤ 6) : dayform_name.f c = some ⟨(nm c).toArray⟩ := by
  rcases seven c h h' with e | e | e | e | e | e | e <;> subst e <;> decide +kernel
theorem names06_eq (c : Int) (h : 0 ≤ c) (h' : c ≤ 6) : rdOf ByteArray.empty names06 c = ⟨(nm c).toArray⟩ := by
  rcases seven c h h' with e | e | e | e | e | e | e <;> subst e <;> rfl
theorem itoa_len (b : Int) (h : 0 ≤ b) (h' : b ≤ 31) : (Lib.itoa b).length ≤ 3 := by
  unfold Lib.itoa
  rw [if_neg (by omega)]
  exact decDigits_len _ 2 (by omega)

theorem dayform_Show_eq (k : Nat) (a b c : Int) (h0 : -9223372036854775808 ≤ b) (h1 : b ≤ 9223372036854775807) : dayform_Show.f (k + 1) a b c = some (showP a b c) := by
  unfold dayform_Show.f showP
  rw [dayform_right_eq]
  simp only [Option.bind_some]
  by_cases hr : drightB a b c = true
  · rw [if_pos hr, if_pos hr]
    have hd := (drightB_iff a b c).1 hr
    have hit : strconv_Itoa.f b = some ⟨(Lib.itoa b).toArray⟩ := by unfold strconv_Itoa.f; rw [if_pos h0, if_pos h1]
    have hil := itoa_len b (by omega) (by omega)
    have hnl := nm_len c (by omega) (by omega)
    rw [hit, dayform_name_eq c (by omega) (by omega)]
    simp only [Option.bind_some]
    unfold showL
    by_cases ha : a = 0
    · rw [if_pos ha, if_pos ha]
    rw [if_neg ha, if_neg ha]
    by_cases ha1 : a = 1
    · rw [if_pos ha1, if_pos ha1, if_pos (by rw [size_mk]; omega)]
      exact congrArg (fun x => some (x, (0 : Int))) (append_mk [108, 97, 115, 116] _)
    rw [if_neg ha1, if_neg ha1, IntWalk.wrap64_in _ (by omega), if_pos (by omega), if_pos (by omega)]
    by_cases ha2 : a = 2
    · subst ha2
      have e : rdOf ByteArray.empty ([(⟨#[62, 61]⟩ : ByteArray), (⟨#[60, 61]⟩ : ByteArray)] : List ByteArray) (2 - 2) = ⟨([62, 61] : List UInt8).toArray⟩ := rfl
      rw [e, append_mk, if_pos (by rw [size_mk, size_mk]; simp; omega), if_pos (by rw [size_mk, size_mk, List.length_append]; simp; omega), append_mk, if_pos rfl]
    · have : a = 3 := by omega
      subst this
      have e : rdOf ByteArray.empty ([(⟨#[62, 61]⟩ : ByteArray), (⟨#[60, 61]⟩ : ByteArray)] : List ByteArray) (3 - 2) = ⟨([60, 61] : List UInt8).toArray⟩ := rfl
      rw [e, append_mk, if_pos (by rw [size_mk, size_mk]; simp; omega), if_pos (by rw [size_mk, size_mk, List.length_append]; simp; omega), append_mk, if_neg (by decide)]
  · rw [if_neg hr, if_neg hr]

theorem noonmarkref06_Right_eq (k : Nat) (a b c : Int) : noonmarkref06_Right.f (k + 2) a b c = some (drightB a b c) := by
  have j1 : ∀ x y : Bool, noonmarkref06_Right.j1 (k + 1) x y a b c = some (if a = 0 then (x && (c == 0)) else if a = 1 then (y && (b == 0)) else if a = 2 then (x && y) else if a = 3 then (x && y) else false) := fun x y => by
    simp only [noonmarkref06_Right.j1]
    split
    · cases x <;> rfl
    split
    · cases y <;> rfl
    split
    · cases x <;> rfl
    split
    · cases x <;> rfl
    rfl
  have j0 : ∀ x : Bool, noonmarkref06_Right.j0 (k + 2) x a b c = some (if a = 0 then (x && (c == 0)) else if a = 1 then (decide (0 ≤ c ∧ c ≤ 6) && (b == 0)) else if a = 2 then (x && decide (0 ≤ c ∧ c ≤ 6)) else if a = 3 then (x && decide (0 ≤ c ∧ c ≤ 6)) else false) := fun x => by
    simp only [noonmarkref06_Right.j0]
    by_cases h : c ≥ 0
    · rw [if_pos h, j1, show decide (c ≤ 6) = decide (0 ≤ c ∧ c ≤ 6) from decide_eq_decide.2 (by omega)]
    · rw [if_neg h, j1, show false = decide (0 ≤ c ∧ c ≤ 6) from (decide_eq_false (by omega)).symm]
  unfold noonmarkref06_Right.f
  by_cases hb : b ≥ 1
  · rw [if_pos hb, j0]
    congr 1
    rw [Bool.eq_iff_iff, drightB_iff]
    split
    · simp; omega
    split
    · simp; omega
    split
    · simp; omega
    split
    · simp; omega
    · simp; omega
  · rw [if_neg hb, j0]
    congr 1
    rw [Bool.eq_iff_iff, drightB_iff]
    split
    · simp; omega
    split
    · simp; omega
    split
    · simp; omega
    split
    · simp; omega
    · simp; omega

theorem noonmarkref06_Show_eq (k : Nat) (a b c : Int) (hk : 20 ≤ k) : noonmarkref06_Show.f k a b c = some (showP a b c) := by
  obtain ⟨k, rfl⟩ : ∃ m, k = m + 2 := ⟨k - 2, by omega⟩
  unfold noonmarkref06_Show.f showP
  rw [noonmarkref06_Right_eq]
  simp only [Option.bind_some]
  by_cases hr : drightB a b c = true
  · rw [if_pos hr, if_pos hr]
    have hd := (drightB_iff a b c).1 hr
    have hil := itoa_len b (by omega) (by omega)
    rw [noonmarkref02_Int_eq b _ (by omega) (by omega) (by omega)]
    simp only [Option.bind_some]
    rw [if_pos ⟨by omega, by omega, by rw [size_mk]; omega⟩, names06_eq c (by omega) (by omega)]
    unfold showL
    by_cases ha : a = 0
    · rw [if_neg (by omega), if_neg (by omega), if_neg (by omega), if_pos ha]
    by_cases ha1 : a = 1
    · rw [if_pos ha1, if_neg ha, if_pos ha1]
      exact congrArg (fun x => some (x, (0 : Int))) (append_mk [108, 97, 115, 116] _)
    by_cases ha2 : a = 2
    · rw [if_neg ha1, if_pos ha2, if_neg ha, if_neg ha1, if_pos ha2]
      exact congrArg (fun x => some (x, (0 : Int))) ((congrArg (· ++ (⟨(Lib.itoa b).toArray⟩ : ByteArray)) (append_mk (nm c) [62, 61])).trans (append_mk _ _))
    · rw [if_neg ha1, if_neg ha2, if_pos (by omega), if_neg ha, if_neg ha1, if_neg ha2]
      exact congrArg (fun x => some (x, (0 : Int))) ((congrArg (· ++ (⟨(Lib.itoa b).toArray⟩ : ByteArray)) (append_mk (nm c) [60, 61])).trans (append_mk _ _))
  · rw [if_neg hr, if_neg hr]

/-- A number's text up to 99. -/
def dig2 (b : Nat) : List UInt8 := if b < 10 then [UInt8.ofNat (48 + b)] else [UInt8.ofNat (48 + b / 10), UInt8.ofNat (48 + b % 10)]
theorem itoa_dig2 (b : Nat) (h : b < 100) : Lib.itoa (b : Int) = dig2 b := by
  unfold Lib.itoa dig2
  rw [if_neg (by omega), Int.toNat_natCast]
  by_cases h9 : b < 10
  · rw [decDigits_lt b h9, if_pos h9]
  · rw [decDigits_ge b h9, decDigits_lt (b / 10) (by omega), if_neg h9]; rfl
def showN (a b c : Nat) : List UInt8 := if a = 0 then dig2 b else if a = 1 then [108, 97, 115, 116] ++ nm c else if a = 2 then nm c ++ [62, 61] ++ dig2 b else nm c ++ [60, 61] ++ dig2 b
theorem showL_N (a b c : Nat) (h : b < 100) : showL a b c = showN a b c := by
  unfold showL showN
  rw [itoa_dig2 b h]
  have e0 : ((a : Int) = 0) ↔ a = 0 := by omega
  have e1 : ((a : Int) = 1) ↔ a = 1 := by omega
  have e2 : ((a : Int) = 2) ↔ a = 2 := by omega
  simp only [e0, e1, e2]
theorem back_all : ∀ a : Fin 4, ∀ b : Fin 32, ∀ c : Fin 7, drightB ((a : Nat) : Int) ((b : Nat) : Int) ((c : Nat) : Int) = true → parseP (showN a b c) = (((a : Nat) : Int), ((b : Nat) : Int), ((c : Nat) : Int), 0) := by decide +kernel
theorem parse_show (a b c : Int) (h : drightB a b c = true) : parseP (showL a b c) = (a, b, c, 0) := by
  have hd := (drightB_iff a b c).1 h
  have := back_all ⟨a.toNat, by omega⟩ ⟨b.toNat, by omega⟩ ⟨c.toNat, by omega⟩
  simp only [Int.toNat_of_nonneg hd.1, Int.toNat_of_nonneg (show 0 ≤ b by omega), Int.toNat_of_nonneg hd.2.2.1] at this
  have e := showL_N a.toNat b.toNat c.toNat (by omega)
  rw [Int.toNat_of_nonneg hd.1, Int.toNat_of_nonneg (show 0 ≤ b by omega), Int.toNat_of_nonneg hd.2.2.1] at e
  rw [e]
  exact this h

theorem u8_of (c : UInt8) (n : Nat) (h : c.toNat = n) : UInt8.ofNat n = c := by subst h; exact UInt8.ofNat_toNat
theorem itoa_numT (l : List UInt8) (h : 0 < numT l) : Lib.itoa (numT l) = l := by
  unfold numT at h ⊢
  by_cases hc : l.length ≤ 2 ∧ l ≠ [] ∧ l.headD 0 ≠ 48 ∧ l.all isDig = true ∧ dval l 0 ≤ 31
  · rw [if_pos hc]
    obtain ⟨h1, h2, h3, h4, h5⟩ := hc
    rw [itoa_dig2 _ (by omega)]
    match l, h1, h2 with
    | [c], _, _ =>
      have := (isDig_int c).1 (by simpa using h4)
      have hv : dval [c] 0 = c.toNat - 48 := by simp [dval]
      rw [hv]
      unfold dig2
      rw [if_pos (by omega), u8_of c _ (by omega)]
    | [c, d], _, _ =>
      simp only [List.all_cons, Bool.and_eq_true] at h4
      have := (isDig_int c).1 h4.1
      have := (isDig_int d).1 h4.2.1
      have h1 : c.toNat ≠ 48 := fun e => h3 (UInt8.toNat_inj.1 e)
      have hv : dval [c, d] 0 = (c.toNat - 48) * 10 + (d.toNat - 48) := by simp [dval]
      rw [hv]
      unfold dig2
      rw [if_neg (by omega), u8_of c _ (by omega), u8_of d _ (by omega)]
    | _ :: _ :: _ :: _, h, _ => simp at h
  · rw [if_neg hc] at h
    omega

theorem split35 (l : List UInt8) (m : List UInt8) (h : (l.drop 3).take 2 = m) : l = l.take 3 ++ m ++ l.drop 5 := by
  rw [← h, List.append_assoc, show l.drop 5 = (l.drop 3).drop 2 by rw [List.drop_drop], List.take_append_drop, List.take_append_drop]
theorem show_parse (l : List UInt8) (h : (parseP l).2.2.2 = 0) : drightB (parseP l).1 (parseP l).2.1 (parseP l).2.2.1 = true ∧ showL (parseP l).1 (parseP l).2.1 (parseP l).2.2.1 = l := by
  have hb := numT_bd l
  unfold parseP at h ⊢
  by_cases h0 : 0 < numT l
  · rw [if_pos h0]
    refine ⟨(drightB_iff 0 (numT l) 0).2 (by omega), ?_⟩
    show showL 0 (numT l) 0 = l
    unfold showL
    rw [if_pos rfl, itoa_numT l h0]
  rw [if_neg h0] at h ⊢
  by_cases h1 : l.take 4 = [108, 97, 115, 116] ∧ 0 ≤ nameIx (l.drop 4)
  · rw [if_pos h1]
    rcases nameIx_cases (l.drop 4) with g | ⟨g0, g1, g2⟩
    · omega
    refine ⟨(drightB_iff 1 0 (nameIx (l.drop 4))).2 (by omega), ?_⟩
    show showL 1 0 (nameIx (l.drop 4)) = l
    unfold showL
    rw [if_neg (by decide), if_pos rfl, ← g2, ← h1.1, List.take_append_drop]
  rw [if_neg h1] at h ⊢
  have hside : ∀ m, sideP l m = true → 5 < l.length ∧ 0 ≤ nameIx (l.take 3) ∧ (l.drop 3).take 2 = m ∧ 0 < numT (l.drop 5) := fun m hm => by unfold sideP at hm; exact of_decide_eq_true hm
  have hb5 := numT_bd (l.drop 5)
  by_cases h2 : sideP l [62, 61] = true
  · rw [if_pos h2]
    obtain ⟨s1, s2, s3, s4⟩ := hside _ h2
    rcases nameIx_cases (l.take 3) with g | ⟨g0, g1, g2⟩
    · omega
    refine ⟨(drightB_iff 2 (numT (l.drop 5)) (nameIx (l.take 3))).2 (by omega), ?_⟩
    show showL 2 (numT (l.drop 5)) (nameIx (l.take 3)) = l
    unfold showL
    rw [if_neg (by decide), if_neg (by decide), if_pos rfl, ← g2, itoa_numT _ s4]
    exact (split35 l _ s3).symm
  rw [if_neg h2] at h ⊢
  by_cases h3 : sideP l [60, 61] = true
  · rw [if_pos h3]
    obtain ⟨s1, s2, s3, s4⟩ := hside _ h3
    rcases nameIx_cases (l.take 3) with g | ⟨g0, g1, g2⟩
    · omega
    refine ⟨(drightB_iff 3 (numT (l.drop 5)) (nameIx (l.take 3))).2 (by omega), ?_⟩
    show showL 3 (numT (l.drop 5)) (nameIx (l.take 3)) = l
    unfold showL
    rw [if_neg (by decide), if_neg (by decide), if_neg (by decide), ← g2, itoa_numT _ s4]
    exact (split35 l _ s3).symm
  rw [if_neg h3] at h
  exact absurd h (by decide)
theorem parse_none (l : List UInt8) (h : (parseP l).2.2.2 ≠ 0) : parseP l = (0, 0, 0, 6) := by
  unfold parseP at h ⊢
  split at h
  · exact absurd rfl h
  split at h
  · exact absurd rfl h
  split at h
  · exact absurd rfl h
  split at h
  · exact absurd rfl h
  rename_i h0 h1 h2 h3
  rw [if_neg h0, if_neg h1, if_neg h2, if_neg h3]
end Go.Proofs.YtahpmeijinndhaaDoor.P
