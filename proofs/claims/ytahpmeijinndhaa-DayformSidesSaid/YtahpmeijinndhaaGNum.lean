/-
  dayform.number: a text of one or two digits, the first one not 0, as a number up to 31.
-/
import Derived.Test.YtahpmeijinndhaaGBase
import Derived.Test.YtahpmeijinndhaaWWords
import Derived.Tactics
import Derived.Deep.QuietTactic
import Derived.BigQuiet
import Derived.Lib.ConvBytes
import Derived.LoopTactic
import Derived.Lib.Hide
namespace Go.Proofs.Ytahpmeijinndhaa.P
open Go.RowKit Go.Proofs.YtahpmeijinndhaaW.PrintWords
set_option linter.unusedVariables false

theorem below_bytes (w : World) (e : TypeId) (s : ByteArray) : Below w.heap.size w (Lib.bytesWorld w e s) :=
  ⟨rfl, rfl, rfl, by rw [Lib.bytesWorld_size]; omega, fun k hk => Lib.bytesWorld_at_old w e s k hk⟩

/-- The number that digits say, behind n; none: a byte that is no digit. -/
def numB : List UInt8 → Int → Option Int
  | [], n => some n
  | c :: r, n => if (c.toNat : Int) < 48 then none else if 57 < (c.toNat : Int) then none else numB r (n * 10 + ((c.toNat : Int) - 48))

/-- What the digits' loop answers. -/
def numR (l : List UInt8) (n : Int) : Int × Bool :=
  match numB l n with
  | none => (0, false)
  | some n => (n, decide (n ≤ 31))

def dayform_number.f (a0 : ByteArray) : Option (Int × Bool) :=
  if 2 < a0.size then some (0, false) else if a0.size = 0 then some (0, false) else if bt a0 0 = 48 then some (0, false) else some (numR a0.data.toList 0)

theorem numR_drop (l : List UInt8) (k : Nat) (n : Int) (h : k < l.length) :
    numR (l.drop k) n = if ((l.getD k 0).toNat : Int) < 48 then (0, false) else if 57 < ((l.getD k 0).toNat : Int) then (0, false) else numR (l.drop (k + 1)) (n * 10 + (((l.getD k 0).toNat : Int) - 48)) := by
  unfold numR
  rw [List.drop_eq_getElem_cons h, numB]
  simp only [List.getD, List.getElem?_eq_getElem h, Option.getD_some]
  split <;> rename_i h1
  · split at h1 <;> simp_all
  · split at h1
    · cases h1
    · rename_i h2
      rw [if_neg h2]
      split at h1
      · cases h1
      · rename_i h3
        rw [if_neg h3, h1]

set_option maxHeartbeats 8000000 in
set_option maxRecDepth 100000 in
theorem dayform_number.loops (a0 : ByteArray) (r1 : Int) (r2 : Bool) (w : World) (h1 : a0.size ≤ 2) (h2 : 0 < a0.size) (h3 : ¬ bt a0 0 = 48) (h : Aside0 (numR a0.data.toList 0 = (r1, r2))) :
    Calls Try.prog 15 #[.string a0] w fun e w' => e = .returned (.tuple #[.int .i64 r1, .bool r2]) ∧ Below w.heap.size w w' := by
  have hb1 : decide (2 < (a0.size : Int)) = false := decide_eq_false (by omega)
  have hb2 : decide (2 < a0.size) = false := decide_eq_false (by omega)
  have hne : ¬ a0.toList = [] := by
    intro h
    have := congrArg List.length h
    rw [ByteArray.toList_eq, Array.length_toList] at this
    change a0.size = 0 at this
    omega
  have hne2 : (a0.toList == []) = false := beq_eq_false_iff_ne.mpr hne
  have hne3 : a0.toList.isEmpty = false := by
    cases h : a0.toList with
    | nil => exact absurd h hne
    | cons _ _ => rfl
  have hc0 : (((a0[0]'h2).toNat : Int) == 48) = false := beq_eq_false_iff_ne.mpr (by rw [show ((a0[0]'h2).toNat : Int) = bt a0 0 from bt_at a0 0 h2]; exact h3)
  have hconv := Lib.run_convert_string_bytes (P := Try.prog) w 9 47 5 a0 Try.underlying9 Try.underlying47 Try.underlying5
  have HB := Aside0.mk (below_bytes w 5 a0)
  go_enter Try.func15, Try.ntmps15
  go_wp2
  go_loop [2, 21] (fun n i => ∃ (k : Nat) (m : Int), i = .int .i64 k ∧ n = .int .i64 m ∧ k ≤ a0.size ∧ 0 ≤ m ∧ m ≤ 99 ∧ (k = 0 → m ≤ 0) ∧ (k = 1 → m ≤ 9) ∧ Aside0 (numR (a0.data.toList.drop k) m = (r1, r2))) (fun _ i => a0.size - (intOf i).toNat)
  case atStart => exact ⟨0, 0, rfl, rfl, Nat.zero_le _, by omega, by omega, by omega, by omega, h⟩
  case round =>
    obtain ⟨k, m, rfl, rfl, hk, hm0, hm1, hmz, hmo, hn⟩ := hrel
    by_cases hlt : k < a0.size
    · have hcell := Lib.bytesWorld_cell w 5 a0 k hlt
      have hd := Aside0.mk (numR_drop a0.data.toList k m (by rw [Array.length_toList]; exact hlt))
      generalize a0.data.toList.getD k 0 = c at hcell hd
      have hcu := c.toNat_lt
      by_cases c1 : (c.toNat : Int) < 48
      · have e1 : decide ((c.toNat : Int) < 48) = true := decide_eq_true c1
        have hq := hd.out.symm.trans hn.out
        rw [if_pos c1] at hq
        simp only [Prod.mk.injEq] at hq
        obtain ⟨rfl, rfl⟩ := hq
        go_wp2
        go_ret2
        exact ⟨rfl, HB.out⟩
      · have e1 : decide ((c.toNat : Int) < 48) = false := decide_eq_false c1
        by_cases c2 : 57 < (c.toNat : Int)
        · have e2 : decide (57 < (c.toNat : Int)) = true := decide_eq_true c2
          have hq := hd.out.symm.trans hn.out
          rw [if_neg c1, if_pos c2] at hq
          simp only [Prod.mk.injEq] at hq
          obtain ⟨rfl, rfl⟩ := hq
          go_wp2
          go_ret2
          exact ⟨rfl, HB.out⟩
        · have e2 : decide (57 < (c.toNat : Int)) = false := decide_eq_false c2
          have hq := hd.out.symm.trans hn.out
          rw [if_neg c1, if_neg c2] at hq
          have HQ := Aside0.mk hq
          clear hq
          go_wp2
          go_round
          case rel => exact ⟨k + 1, _, by go_num, rfl, by omega, by omega, by omega, by omega, by omega, HQ⟩
          case measure => simp [intOf]; omega
    · have hq := hn.out
      rw [List.drop_of_length_le (by rw [Array.length_toList]; exact Nat.le_of_not_lt hlt)] at hq
      unfold numR at hq
      simp only [numB, Prod.mk.injEq] at hq
      obtain ⟨rfl, rfl⟩ := hq
      go_wp2
      go_ret2
      exact ⟨rfl, HB.out⟩

set_option maxHeartbeats 8000000 in
set_option maxRecDepth 100000 in
theorem dayform_number.calls (a0 : ByteArray) (r1 : Int) (r2 : Bool) (w : World) (hG : GOK w) (h : dayform_number.f a0 = some (r1, r2)) :
    Calls Try.prog 15 #[.string a0] w fun e w' => e = .returned (.tuple #[.int .i64 r1, .bool r2]) ∧ Below w.heap.size w w' := by
  unfold dayform_number.f at h
  by_cases h1 : 2 < a0.size
  · rw [if_pos h1] at h
    simp only [Option.some.injEq, Prod.mk.injEq] at h
    obtain ⟨rfl, rfl⟩ := h
    have hb1 : decide (2 < (a0.size : Int)) = true := decide_eq_true (by omega)
    have hb2 : decide (2 < a0.size) = true := decide_eq_true (by omega)
    go_enter Try.func15, Try.ntmps15
    go_wp2
    go_ret2
    exact ⟨rfl, Below.refl _ _⟩
  · rw [if_neg h1] at h
    have hb1 : decide (2 < (a0.size : Int)) = false := decide_eq_false (by omega)
    have hb2 : decide (2 < a0.size) = false := decide_eq_false (by omega)
    by_cases h2 : a0.size = 0
    · rw [if_pos h2] at h
      simp only [Option.some.injEq, Prod.mk.injEq] at h
      obtain ⟨rfl, rfl⟩ := h
      have hne : a0.toList = [] := by
        rw [ByteArray.toList_eq]
        exact List.eq_nil_of_length_eq_zero (by rw [Array.length_toList]; exact h2)
      have hne2 : (a0.toList == []) = true := beq_iff_eq.mpr hne
      have hne3 : a0.toList.isEmpty = true := by rw [hne]; rfl
      have hz : a0.size ≤ 0 := by omega
      clear h2
      go_enter Try.func15, Try.ntmps15
      go_wp2
      go_ret2
      exact ⟨rfl, Below.refl _ _⟩
    · rw [if_neg h2] at h
      by_cases h3 : bt a0 0 = 48
      · rw [if_pos h3] at h
        simp only [Option.some.injEq, Prod.mk.injEq] at h
        obtain ⟨rfl, rfl⟩ := h
        have h4 : 0 < a0.size := by omega
        have hne : ¬ a0.toList = [] := by
          intro h
          have := congrArg List.length h
          rw [ByteArray.toList_eq, Array.length_toList] at this
          change a0.size = 0 at this
          omega
        have hne2 : (a0.toList == []) = false := beq_eq_false_iff_ne.mpr hne
        have hne3 : a0.toList.isEmpty = false := by
          cases h : a0.toList with
          | nil => exact absurd h hne
          | cons _ _ => rfl
        have hc0 : (((a0[0]'h4).toNat : Int) == 48) = true := beq_iff_eq.mpr (by rw [show ((a0[0]'h4).toNat : Int) = bt a0 0 from bt_at a0 0 h4]; exact h3)
        clear h2 h3
        go_enter Try.func15, Try.ntmps15
        go_wp2
        go_ret2
        exact ⟨rfl, Below.refl _ _⟩
      · rw [if_neg h3] at h
        exact dayform_number.loops a0 r1 r2 w (by omega) (by omega) h3 ⟨Option.some.inj h⟩
end Go.Proofs.Ytahpmeijinndhaa.P
