import Derived.Test.YthihiidooomdnaaDoorWf
namespace Go.Proofs.YthihiidooomdnaaDoor.D
open Go.RowKit
set_option linter.unusedVariables false
set_option linter.unusedSimpArgs false
def frameP (l : List UInt8) : List UInt8 := dd l.length ++ [58] ++ l ++ [10]
def frameV (l : List UInt8) : Value := if 20000 < l.length then .tuple #[.slice none 0 0, .int .i64 17] else .tuple #[sq false false 1 ((frameP l).map eb), .int .i64 0]
theorem frz_own {m : Mem} {v : Value} {l : List UInt8} (h : Own m v 1 (l.map eb)) {n0 : Nat} (h0 : n0 ≤ m.lo) : frz 23 n0 m v = sq false false 1 (l.map eb) := h.frz (Cls.eb l) (k := 16) h0
theorem lit1 (b : UInt8) (m : Mem) : vLit 1 1 [(.int .u8 (0))] [(0, (.int .u8 (b.toNat : Int)))] m = some (fz 1 true ([b].map eb), m) := by
  simp [eb]
theorem frame_V (nn tt : Bool) (l : List UInt8) (m : Mem) : LV CV (.call 6) [sq nn tt 1 (l.map eb)] m [] = some ⟨.ret, [frameV l], m, []⟩ := by
  refine R6 ?_
  unfold frameV
  by_cases h : 20000 < l.length
  · have h' : (20000 : Int) < l.length := by omega
    rw [if_pos h]
    simp [x6, h']
  · have h' : ¬ (20000 : Int) < l.length := by omega
    rw [if_neg h]
    obtain ⟨v1, m1, e1, o1, g1⟩ := appI_V (n := l.length) (by omega) ⟨[], m.next, m.next, 0⟩ (Nat.le_refl _)
    have hdl := dd_len 4 l.length (by omega)
    obtain ⟨v2, m2, e2, o2, g2⟩ := o1.app1 (tt := true) (x := eb 58) rfl (b := 1) (by simp; omega) (by simp; omega)
    obtain ⟨v3, m3, e3, o3, g3⟩ := o2.appq (nn := nn) (tt := tt) (xs := l.map eb) (fun e he => by obtain ⟨d, _, rfl⟩ := List.mem_map.1 he; rfl) (b := 1) (by simp; omega) (by simp; omega)
    obtain ⟨v4, m4, e4, o4, g4⟩ := o3.app1 (tt := true) (x := eb 10) rfl (b := 1) (by simp; omega) (by simp; omega)
    have hfr : Own m4 v4 1 ((frameP l).map eb) := by
      have : (frameP l).map eb = (dd l.length).map eb ++ [eb 58] ++ l.map eb ++ [eb 10] := by unfold frameP; simp
      rw [this]; exact o4
    have hlo : m.next ≤ m4.lo := by rw [g4.lo, g3.lo, g2.lo, g1.lo]; exact Nat.le_refl _
    have hz := frz_own hfr hlo
    have l58 := fun m => lit1 58 m
    have l10 := fun m => lit1 10 m
    have f58 : eb 58 = [.int .u8 58] := rfl
    have f10 : eb 10 = [.int .u8 10] := rfl
    rw [f58] at e2
    rw [f10] at e4
    simp [x6, h', e1, e2, e3, e4, FUEL, hz]
theorem rframe_V (nn tt : Bool) (l : List UInt8) (m : Mem) : LV CV (.call 7) [sq nn tt 1 (l.map eb)] m [] = some ⟨.ret, [frameV l], m, []⟩ := by
  refine R7 ?_
  unfold frameV
  by_cases h : 20000 < l.length
  · have h' : (20000 : Int) < l.length := by omega
    rw [if_pos h]
    simp [x7, h']
  · have h' : ¬ (20000 : Int) < l.length := by omega
    rw [if_neg h]
    have hd := fun m => digits_V (l.length + 1) l.length (by omega) (by omega) m
    have hdl := dd_len 4 l.length (by omega)
    have hcat : (dd l.length).length + 1 ≤ 4611686018427387904 := by omega
    have o2 : Own ((⟨[], m.next, m.next, 0⟩ : Mem).push ⟨1, (dd l.length ++ [58]).map fun b : UInt8 => (.int .u8 (b.toNat : Int) : Value)⟩) (.slice (some ⟨m.next, 0, none⟩) (dd l.length ++ [58]).length ((dd l.length ++ [58]).length + 1)) 1 ((dd l.length ++ [58]).map eb) := by
      refine ⟨by simp, fun e he => by obtain ⟨d, _, rfl⟩ := List.mem_map.1 he; rfl, .inr ⟨m.next, (dd l.length ++ [58]).length + 1, by simp, by simp, by simp, by rw [eb_flat]; simp, by simp, by simp⟩⟩
    generalize hM : (⟨[], m.next, m.next, 0⟩ : Mem).push ⟨1, (dd l.length ++ [58]).map fun b : UInt8 => (.int .u8 (b.toNat : Int) : Value)⟩ = M at o2
    generalize hV : (.slice (some ⟨m.next, 0, none⟩) (dd l.length ++ [58]).length ((dd l.length ++ [58]).length + 1) : Value) = V at o2
    obtain ⟨v3, m3, e3, o3, g3⟩ := o2.appq (nn := nn) (tt := tt) (xs := l.map eb) (fun e he => by obtain ⟨d, _, rfl⟩ := List.mem_map.1 he; rfl) (b := 1) (by simp; omega) (by simp; omega)
    obtain ⟨v4, m4, e4, o4, g4⟩ := o3.app1 (tt := true) (x := eb 10) rfl (b := 1) (by simp; omega) (by simp; omega)
    have hfr : Own m4 v4 1 ((frameP l).map eb) := by
      have : (frameP l).map eb = (dd l.length ++ [58]).map eb ++ l.map eb ++ [eb 10] := by unfold frameP; simp
      rw [this]; exact o4
    have hlo : m.next ≤ m4.lo := by rw [g4.lo, g3.lo, ← hM]; simp
    have hz := frz_own hfr hlo
    have hb : aBytes (S (dd l.length ++ [58])) ⟨[], m.next, m.next, 0⟩ = some (V, M) := by rw [aBytes_S, ← hV, ← hM]
    have f10 : eb 10 = [.int .u8 10] := rfl
    rw [f10] at e4
    simp [-aBytes_S, x7, h', hd, hcat, hb, e3, e4, FUEL, hz]
end Go.Proofs.YthihiidooomdnaaDoor.D
