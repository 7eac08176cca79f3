/-
  What each function does: printed by Vtool, checked by the kernel.
-/
import Derived.Test.YthihiidooomdnaaDoorIR
import Derived.Test.YthihiidooomdnaaDoorVG
namespace Go.Proofs.YthihiidooomdnaaDoor.D
open Go.RowKit
set_option maxRecDepth 100000
set_option linter.unusedVariables false
def puT : List Nat := [3, 4, 5, 6, 7, 8, 9, 10, 12, 32, 33, 34, 35]
def CV : CodeV := ⟨look irsT, look lpsT, gvT, fun f => puT.contains f⟩
/-- noonmark/noonmarklaw01.WireFrames -/
def x3 (O : Orc) (a0 : Value) (m : Mem) : Option Out :=
retK (O (.call 6) [a0] m []) (fun v0 m1 =>
(aExtract 0 v0).bind fun v3 =>
(aExtract 1 v0).bind fun v4 =>
retK (O (.call 7) [a0] m1 []) (fun v5 m6 =>
(aExtract 0 v5).bind fun v8 =>
(aExtract 1 v5).bind fun v9 =>
retK (O (.call 8) [v3, v8] m6 []) (fun v10 m11 =>
br v10 (
(aBin .eql v4 v9).bind fun v13 =>
br v13 (
retK (O (.call 9) [] m11 []) (fun v14 m15 =>
some ⟨.ret, [v14], m15, []⟩) (fun p16 m17 => some ⟨.panic p16, [], m17, []⟩)) (
some ⟨.ret, [(.bool false)], m11, []⟩)) (
some ⟨.ret, [(.bool false)], m11, []⟩)) (fun p12 m18 => some ⟨.panic p12, [], m18, []⟩)) (fun p7 m19 => some ⟨.panic p7, [], m19, []⟩)) (fun p2 m20 => some ⟨.panic p2, [], m20, []⟩)
theorem R3 {a0 : Value} {m : Mem} {r : Out} (h : (x3 (LV CV) a0 ⟨[], m.next, m.next, 0⟩).bind (close m) = some r) (hc : [a0].all (clo FUEL) = true := by simp) : LV CV (.call 3) [a0] m [] = some r := R_callP (C := CV) (fn := ir3) rfl rfl rfl (Nat.le_of_ble_eq_true rfl) hc (x := x3 (LV CV) a0 ⟨[], m.next, m.next, 0⟩) (by kernel_rfl) h
def y400 (O : Orc) (b0 b1 b2 b3 : Value) (m : Mem) : Option Out :=
(vLenL b0).bind fun v0 =>
(aBin .lss b3 v0).bind fun v1 =>
br v1 (
(vIdx 1 b0 b3).bind fun v2 =>
(vLd 1 false v2 m).bind fun v3 =>
retK (O (.call 6) [v3] m []) (fun v4 m5 =>
(aExtract 0 v4).bind fun v7 =>
(aExtract 1 v4).bind fun v8 =>
(aBin .neq v8 (.int .i64 (0))).bind fun v9 =>
br v9 (
retK (O (.call 9) [] m5 []) (fun v10 m11 =>
some ⟨.ret, [b0, v10, b2, b3], m11, []⟩) (fun p12 m13 => some ⟨.panic p12, [b0, b1, b2, b3], m13, []⟩)) (
(vApp false 1 1 b2 v7 m5).bind fun r14 =>
(aBin .add b3 (.int .i64 (1))).bind fun v15 =>
O (.loop 400) [b0, b1, r14.1, v15] r14.2 [])) (fun p6 m16 => some ⟨.panic p6, [b0, b1, b2, b3], m16, []⟩)) (
some ⟨.exit 0, [b0, b1, b2, b3], m, []⟩)
theorem Q400 {b0 b1 b2 b3 : Value} {m : Mem} {r : Out} (h : y400 (LV CV) b0 b1 b2 b3 m = some r) : LV CV (.loop 400) [b0, b1, b2, b3] m [] = some r := R_loopV (C := CV) (keep := [0, 2, 3, 4]) (b := lb400) rfl (x := y400 (LV CV) b0 b1 b2 b3 m) (by kernel_rfl) h
def y401 (O : Orc) (b0 b1 b2 b3 : Value) (m : Mem) : Option Out :=
(vLenL b0).bind fun v0 =>
(aBin .lss b3 v0).bind fun v1 =>
br v1 (
(vIdx 2 b2 b3).bind fun v2 =>
(vFieldAddr 0 v2).bind fun v3 =>
(vLd 1 false v3 m).bind fun v4 =>
br v4 (
some ⟨.ret, [b0, (.bool false), b2, b3], m, []⟩) (
(vIdx 2 b2 b3).bind fun v5 =>
(vFieldAddr 1 v5).bind fun v6 =>
(vLd 1 false v6 m).bind fun v7 =>
(vIdx 1 b0 b3).bind fun v8 =>
(vLd 1 false v8 m).bind fun v9 =>
retK (O (.call 8) [v7, v9] m []) (fun v10 m11 =>
(aUn .not v10).bind fun v13 =>
br v13 (
some ⟨.ret, [b0, (.bool false), b2, b3], m11, []⟩) (
(aBin .add b3 (.int .i64 (1))).bind fun v14 =>
O (.loop 401) [b0, b1, b2, v14] m11 [])) (fun p12 m15 => none))) (
some ⟨.exit 2, [b0, b1, b2, b3], m, []⟩)
theorem Q401 {b0 b1 b2 b3 : Value} {m : Mem} {r : Out} (h : y401 (LV CV) b0 b1 b2 b3 m = some r) : LV CV (.loop 401) [b0, b1, b2, b3] m [] = some r := R_loopV (C := CV) (keep := [0, 2, 7, 9]) (b := lb401) rfl (x := y401 (LV CV) b0 b1 b2 b3 m) (by kernel_rfl) h
/-- noonmark/noonmarklaw01.WireBack -/
def x4 (O : Orc) (a0 : Value) (m : Mem) : Option Out :=
(vLenL a0).bind fun v0 =>
(aBin .gtr v0 (.int .i64 (50))).bind fun v1 =>
br v1 (
retK (O (.call 9) [] m []) (fun v2 m3 =>
some ⟨.ret, [v2], m3, []⟩) (fun p4 m5 => some ⟨.panic p4, [], m5, []⟩)) (
lpN (O (.loop 400) [a0, (.bool false), (.slice none 0 0), (.int .i64 (0))] m []) (fun id9 w6 m7 =>
if id9 = 0 then
retK (O (.call 10) [(w6.getD 2 undef)] m7 []) (fun v11 m12 =>
(aExtract 0 v11).bind fun v14 =>
(aExtract 1 v11).bind fun v15 =>
(vLenL v14).bind fun v16 =>
(vLenL (w6.getD 0 undef)).bind fun v17 =>
(aBin .neq v16 v17).bind fun v18 =>
br v18 (
some ⟨.ret, [(.bool false)], m12, []⟩) (
(vLenL v15).bind fun v19 =>
(aBin .neq v19 (.int .i64 (0))).bind fun v20 =>
br v20 (
some ⟨.ret, [(.bool false)], m12, []⟩) (
lpN (O (.loop 401) [(w6.getD 0 undef), (w6.getD 1 undef), v14, (.int .i64 (0))] m12 []) (fun id24 w21 m22 =>
if id24 = 2 then
retK (O (.call 9) [] m22 []) (fun v26 m27 =>
some ⟨.ret, [v26], m27, []⟩) (fun p28 m29 => some ⟨.panic p28, [], m29, []⟩) else
none) (fun w21 m22 =>
some ⟨.ret, [(w21.getD 1 undef)], m22, []⟩) (fun p25 w21 m22 =>
some ⟨.panic p25, [], m22, []⟩)))) (fun p13 m30 => some ⟨.panic p13, [], m30, []⟩) else
none) (fun w6 m7 =>
some ⟨.ret, [(w6.getD 1 undef)], m7, []⟩) (fun p10 w6 m7 =>
some ⟨.panic p10, [], m7, []⟩))
theorem R4 {a0 : Value} {m : Mem} {r : Out} (h : (x4 (LV CV) a0 ⟨[], m.next, m.next, 0⟩).bind (close m) = some r) (hc : [a0].all (clo FUEL) = true := by simp) : LV CV (.call 4) [a0] m [] = some r := R_callP (C := CV) (fn := ir4) rfl rfl rfl (Nat.le_of_ble_eq_true rfl) hc (x := x4 (LV CV) a0 ⟨[], m.next, m.next, 0⟩) (by kernel_rfl) h
def y500 (O : Orc) (b0 b1 b2 b3 b4 : Value) (m : Mem) : Option Out :=
(vLenL b0).bind fun v0 =>
(aBin .lss b4 v0).bind fun v1 =>
br v1 (
(vIdx 1 b0 b4).bind fun v2 =>
(vLd 1 false v2 m).bind fun v3 =>
(aBin .neq v3 (.int .u8 (10))).bind fun v4 =>
br v4 (
(vIdx 1 b0 b4).bind fun v5 =>
(vLd 1 false v5 m).bind fun v6 =>
(vLit 1 1 [(.int .u8 (0))] [(0, v6)] m).bind fun r7 =>
(vApp false 1 1 b3 r7.1 r7.2).bind fun r8 =>
(aBin .add b4 (.int .i64 (1))).bind fun v9 =>
O (.loop 500) [b0, b1, b2, r8.1, v9] r8.2 []) (
(aBin .add b4 (.int .i64 (1))).bind fun v10 =>
O (.loop 500) [b0, b1, b2, b3, v10] m [])) (
some ⟨.exit 0, [b0, b1, b2, b3, b4], m, []⟩)
theorem Q500 {b0 b1 b2 b3 b4 : Value} {m : Mem} {r : Out} (h : y500 (LV CV) b0 b1 b2 b3 b4 m = some r) : LV CV (.loop 500) [b0, b1, b2, b3, b4] m [] = some r := R_loopV (C := CV) (keep := [0, 1, 5, 7, 8]) (b := lb500) rfl (x := y500 (LV CV) b0 b1 b2 b3 b4 m) (by kernel_rfl) h
/-- noonmark/noonmarklaw01.WireAgain -/
def x5 (O : Orc) (a0 a1 : Value) (m : Mem) : Option Out :=
retK (O (.call 6) [a1] m []) (fun v0 m1 =>
(aExtract 0 v0).bind fun v3 =>
(aExtract 1 v0).bind fun v4 =>
(aBin .neq v4 (.int .i64 (0))).bind fun v5 =>
br v5 (
retK (O (.call 9) [] m1 []) (fun v6 m7 =>
some ⟨.ret, [v6], m7, []⟩) (fun p8 m9 => some ⟨.panic p8, [], m9, []⟩)) (
(vLenL a0).bind fun v10 =>
(aBin .gtr v10 (.int .i64 (2000))).bind fun v11 =>
br v11 (
retK (O (.call 9) [] m1 []) (fun v12 m13 =>
some ⟨.ret, [v12], m13, []⟩) (fun p14 m15 => some ⟨.panic p14, [], m15, []⟩)) (
(vLit 1 1 [(.int .u8 (0))] [(0, (.int .u8 (120)))] m1).bind fun r16 =>
lpN (O (.loop 500) [a0, a1, v3, r16.1, (.int .i64 (0))] r16.2 []) (fun id20 w17 m18 =>
if id20 = 0 then
(vLit 1 0 [(.int .u8 (0))] [] m18).bind fun r22 =>
(vApp false 1 1 r22.1 (w17.getD 3 undef) r22.2).bind fun r23 =>
(vLit 1 1 [(.int .u8 (0))] [(0, (.int .u8 (10)))] r23.2).bind fun r24 =>
(vApp false 1 1 r23.1 r24.1 r24.2).bind fun r25 =>
(vApp false 1 1 r25.1 (w17.getD 2 undef) r25.2).bind fun r26 =>
retK (O (.call 10) [r26.1] r26.2 []) (fun v27 m28 =>
(aExtract 0 v27).bind fun v30 =>
(aExtract 1 v27).bind fun v31 =>
(vLenL v30).bind fun v32 =>
(aBin .eql v32 (.int .i64 (2))).bind fun v33 =>
br v33 (
(vIdx 2 v30 (.int .i64 (0))).bind fun v34 =>
(vFieldAddr 0 v34).bind fun v35 =>
(vLd 1 false v35 m28).bind fun v36 =>
br v36 (
(vIdx 2 v30 (.int .i64 (0))).bind fun v37 =>
(vFieldAddr 1 v37).bind fun v38 =>
(vLd 1 false v38 m28).bind fun v39 =>
(vLenL v39).bind fun v40 =>
(aBin .eql v40 (.int .i64 (0))).bind fun v41 =>
br v41 (
(vIdx 2 v30 (.int .i64 (1))).bind fun v42 =>
(vFieldAddr 0 v42).bind fun v43 =>
(vLd 1 false v43 m28).bind fun v44 =>
(aUn .not v44).bind fun v45 =>
br v45 (
(vIdx 2 v30 (.int .i64 (1))).bind fun v46 =>
(vFieldAddr 1 v46).bind fun v47 =>
(vLd 1 false v47 m28).bind fun v48 =>
retK (O (.call 8) [v48, (w17.getD 1 undef)] m28 []) (fun v49 m50 =>
br v49 (
(vLenL v31).bind fun v52 =>
(aBin .eql v52 (.int .i64 (0))).bind fun v53 =>
br v53 (
retK (O (.call 9) [] m50 []) (fun v54 m55 =>
some ⟨.ret, [v54], m55, []⟩) (fun p56 m57 => some ⟨.panic p56, [], m57, []⟩)) (
some ⟨.ret, [(.bool false)], m50, []⟩)) (
some ⟨.ret, [(.bool false)], m50, []⟩)) (fun p51 m58 => some ⟨.panic p51, [], m58, []⟩)) (
some ⟨.ret, [(.bool false)], m28, []⟩)) (
some ⟨.ret, [(.bool false)], m28, []⟩)) (
some ⟨.ret, [(.bool false)], m28, []⟩)) (
some ⟨.ret, [(.bool false)], m28, []⟩)) (fun p29 m59 => some ⟨.panic p29, [], m59, []⟩) else
none) (fun w17 m18 =>
some ⟨.ret, [undef], m18, []⟩) (fun p21 w17 m18 =>
some ⟨.panic p21, [], m18, []⟩)))) (fun p2 m60 => some ⟨.panic p2, [], m60, []⟩)
theorem R5 {a0 a1 : Value} {m : Mem} {r : Out} (h : (x5 (LV CV) a0 a1 ⟨[], m.next, m.next, 0⟩).bind (close m) = some r) (hc : [a0, a1].all (clo FUEL) = true := by simp) : LV CV (.call 5) [a0, a1] m [] = some r := R_callP (C := CV) (fn := ir5) rfl rfl rfl (Nat.le_of_ble_eq_true rfl) hc (x := x5 (LV CV) a0 a1 ⟨[], m.next, m.next, 0⟩) (by kernel_rfl) h
/-- noonmark/wire.Frame -/
def x6 (O : Orc) (a0 : Value) (m : Mem) : Option Out :=
(vLenL a0).bind fun v0 =>
(aBin .gtr v0 (.int .i64 (20000))).bind fun v1 =>
br v1 (
some ⟨.ret, [.tuple [(.slice none 0 0), (.int .i64 (17))].toArray], m, []⟩) (
(vLenL a0).bind fun v2 =>
retK (O (.call 11) [(.slice none 0 0), v2, (.int .i64 (10))] m []) (fun v3 m4 =>
(vLit 1 1 [(.int .u8 (0))] [(0, (.int .u8 (58)))] m4).bind fun r6 =>
(vApp false 1 1 v3 r6.1 r6.2).bind fun r7 =>
(vApp false 1 1 r7.1 a0 r7.2).bind fun r8 =>
(vLit 1 1 [(.int .u8 (0))] [(0, (.int .u8 (10)))] r8.2).bind fun r9 =>
(vApp false 1 1 r8.1 r9.1 r9.2).bind fun r10 =>
some ⟨.ret, [.tuple [r10.1, (.int .i64 (0))].toArray], r10.2, []⟩) (fun p5 m11 => some ⟨.panic p5, [], m11, []⟩))
theorem R6 {a0 : Value} {m : Mem} {r : Out} (h : (x6 (LV CV) a0 ⟨[], m.next, m.next, 0⟩).bind (close m) = some r) (hc : [a0].all (clo FUEL) = true := by simp) : LV CV (.call 6) [a0] m [] = some r := R_callP (C := CV) (fn := ir6) rfl rfl rfl (Nat.le_of_ble_eq_true rfl) hc (x := x6 (LV CV) a0 ⟨[], m.next, m.next, 0⟩) (by kernel_rfl) h
/-- noonmark/noonmarkref01.Frame -/
def x7 (O : Orc) (a0 : Value) (m : Mem) : Option Out :=
(vLenL a0).bind fun v0 =>
(aBin .gtr v0 (.int .i64 (20000))).bind fun v1 =>
br v1 (
some ⟨.ret, [.tuple [(.slice none 0 0), (.int .i64 (17))].toArray], m, []⟩) (
(vLenL a0).bind fun v2 =>
retK (O (.call 12) [v2] m []) (fun v3 m4 =>
(aBin .add v3 (S [58])).bind fun v6 =>
(aBytes v6 m4).bind fun r7 =>
(vApp false 1 1 r7.1 a0 r7.2).bind fun r8 =>
(vLit 1 1 [(.int .u8 (0))] [(0, (.int .u8 (10)))] r8.2).bind fun r9 =>
(vApp false 1 1 r8.1 r9.1 r9.2).bind fun r10 =>
some ⟨.ret, [.tuple [r10.1, (.int .i64 (0))].toArray], r10.2, []⟩) (fun p5 m11 => some ⟨.panic p5, [], m11, []⟩))
theorem R7 {a0 : Value} {m : Mem} {r : Out} (h : (x7 (LV CV) a0 ⟨[], m.next, m.next, 0⟩).bind (close m) = some r) (hc : [a0].all (clo FUEL) = true := by simp) : LV CV (.call 7) [a0] m [] = some r := R_callP (C := CV) (fn := ir7) rfl rfl rfl (Nat.le_of_ble_eq_true rfl) hc (x := x7 (LV CV) a0 ⟨[], m.next, m.next, 0⟩) (by kernel_rfl) h
def y800 (O : Orc) (b0 b1 b2 b3 : Value) (m : Mem) : Option Out :=
(vLenL b0).bind fun v0 =>
(aBin .lss b3 v0).bind fun v1 =>
br v1 (
(vIdx 1 b0 b3).bind fun v2 =>
(vLd 1 false v2 m).bind fun v3 =>
(vIdx 1 b1 b3).bind fun v4 =>
(vLd 1 false v4 m).bind fun v5 =>
(aBin .neq v3 v5).bind fun v6 =>
br v6 (
some ⟨.ret, [b0, b1, (.bool false), b3], m, []⟩) (
(aBin .add b3 (.int .i64 (1))).bind fun v7 =>
O (.loop 800) [b0, b1, b2, v7] m [])) (
some ⟨.exit 0, [b0, b1, b2, b3], m, []⟩)
theorem Q800 {b0 b1 b2 b3 : Value} {m : Mem} {r : Out} (h : y800 (LV CV) b0 b1 b2 b3 m = some r) : LV CV (.loop 800) [b0, b1, b2, b3] m [] = some r := R_loopV (C := CV) (keep := [0, 1, 4, 5]) (b := lb800) rfl (x := y800 (LV CV) b0 b1 b2 b3 m) (by kernel_rfl) h
/-- noonmark/noonmarkref01.Same -/
def x8 (O : Orc) (a0 a1 : Value) (m : Mem) : Option Out :=
(vLenL a0).bind fun v0 =>
(vLenL a1).bind fun v1 =>
(aBin .neq v0 v1).bind fun v2 =>
br v2 (
some ⟨.ret, [(.bool false)], m, []⟩) (
lpN (O (.loop 800) [a0, a1, (.bool false), (.int .i64 (0))] m []) (fun id6 w3 m4 =>
if id6 = 0 then
some ⟨.ret, [(.bool true)], m4, []⟩ else
none) (fun w3 m4 =>
some ⟨.ret, [(w3.getD 2 undef)], m4, []⟩) (fun p7 w3 m4 =>
some ⟨.panic p7, [], m4, []⟩))
theorem R8 {a0 a1 : Value} {m : Mem} {r : Out} (h : (x8 (LV CV) a0 a1 ⟨[], m.next, m.next, 0⟩).bind (close m) = some r) (hc : [a0, a1].all (clo FUEL) = true := by simp) : LV CV (.call 8) [a0, a1] m [] = some r := R_callP (C := CV) (fn := ir8) rfl rfl rfl (Nat.le_of_ble_eq_true rfl) hc (x := x8 (LV CV) a0 a1 ⟨[], m.next, m.next, 0⟩) (by kernel_rfl) h
/-- noonmark/wire.Split -/
def x10 (O : Orc) (a0 : Value) (m : Mem) : Option Out :=
retK (O (.call 13) [] m []) (fun v0 m1 =>
retK (O (.call 14) [v0, a0] m1 []) (fun v3 m4 =>
retK (O (.call 15) [v0] m4 []) (fun v6 m7 =>
some ⟨.ret, [.tuple [v3, v6].toArray], m7, []⟩) (fun p8 m9 => some ⟨.panic p8, [], m9, []⟩)) (fun p5 m10 => some ⟨.panic p5, [], m10, []⟩)) (fun p2 m11 => some ⟨.panic p2, [], m11, []⟩)
theorem R10 {a0 : Value} {m : Mem} {r : Out} (h : (x10 (LV CV) a0 ⟨[], m.next, m.next, 0⟩).bind (close m) = some r) (hc : [a0].all (clo FUEL) = true := by simp) : LV CV (.call 10) [a0] m [] = some r := R_callP (C := CV) (fn := ir10) rfl rfl rfl (Nat.le_of_ble_eq_true rfl) hc (x := x10 (LV CV) a0 ⟨[], m.next, m.next, 0⟩) (by kernel_rfl) h
/-- strconv.AppendInt -/
def x11 (O : Orc) (a0 a1 a2 : Value) (m : Mem) : Option Out :=
retK (O (.call 16) [a0, a1, a2] m []) (fun v0 m1 =>
some ⟨.ret, [v0], m1, []⟩) (fun p2 m3 => some ⟨.panic p2, [], m3, []⟩)
theorem R11 {a0 a1 a2 : Value} {m : Mem} {r : Out} (h : x11 (LV CV) a0 a1 a2 m = some r) : LV CV (.call 11) [a0, a1, a2] m [] = some r := R_callV (C := CV) (fn := ir11) rfl rfl rfl (Nat.le_of_ble_eq_true rfl) (x := x11 (LV CV) a0 a1 a2 m) (by kernel_rfl) h
/-- noonmark/noonmarkref01.Digits -/
def x12 (O : Orc) (a0 : Value) (m : Mem) : Option Out :=
(aBin .rem a0 (.int .i64 (10))).bind fun v0 =>
(aBin .add (.int .i64 (48)) v0).bind fun v1 =>
(aInt .u8 v1).bind fun v2 =>
(vLit 1 1 [(.int .u8 (0))] [(0, v2)] m).bind fun r3 =>
(vStr r3.1 r3.2).bind fun v4 =>
(aBin .lss a0 (.int .i64 (10))).bind fun v5 =>
br v5 (
some ⟨.ret, [v4], r3.2, []⟩) (
(aBin .quo a0 (.int .i64 (10))).bind fun v6 =>
retK (O (.call 12) [v6] r3.2 []) (fun v7 m8 =>
(aBin .add v7 v4).bind fun v10 =>
some ⟨.ret, [v10], m8, []⟩) (fun p9 m11 => some ⟨.panic p9, [], m11, []⟩))
theorem R12 {a0 : Value} {m : Mem} {r : Out} (h : (x12 (LV CV) a0 ⟨[], m.next, m.next, 0⟩).bind (close m) = some r) (hc : [a0].all (clo FUEL) = true := by simp) : LV CV (.call 12) [a0] m [] = some r := R_callP (C := CV) (fn := ir12) rfl rfl rfl (Nat.le_of_ble_eq_true rfl) hc (x := x12 (LV CV) a0 ⟨[], m.next, m.next, 0⟩) (by kernel_rfl) h
/-- noonmark/wire.New -/
def x13 (O : Orc) (m : Mem) : Option Out :=
(aBuild [(0, 1), (1, 1), (2, 1), (3, 1), (4, 1)] [(.int .i64 (0)), (.slice none 0 0), (.int .i64 (0)), (.int .i64 (0)), (.slice none 0 0)] []).bind fun v0 =>
if known v0 = true then letK ((m).push ⟨0, (Value.cells v0).toList⟩) fun m1 =>
some ⟨.ret, [(.pointer (some ⟨(m).next, 0, none⟩))], m1, []⟩ else none
theorem R13 {m : Mem} {r : Out} (h : x13 (LV CV)  m = some r) : LV CV (.call 13) [] m [] = some r := R_callV (C := CV) (fn := ir13) rfl rfl rfl (Nat.le_of_ble_eq_true rfl) (x := x13 (LV CV)  m) (by kernel_rfl) h
def y1400 (O : Orc) (b0 b1 b2 b3 : Value) (m : Mem) : Option Out :=
(aBin .lss b3 b2).bind fun v0 =>
br v0 (
(vIdx 1 b1 b3).bind fun v1 =>
(vLd 1 false v1 m).bind fun v2 =>
retK (O (.call 17) [b0] m []) (fun v3 m4 =>
(fn? v3).bind fun c6 => retK (O (.call c6.1) (c6.2.1 ++ [v2] ++ c6.2.2) m4 []) (fun v7 m8 =>
(aBin .add b3 (.int .i64 (1))).bind fun v10 =>
O (.loop 1400) [b0, b1, b2, v10] m8 []) (fun p9 m11 => some ⟨.panic p9, [b0, b1, b2, b3], m11, []⟩)) (fun p5 m12 => some ⟨.panic p5, [b0, b1, b2, b3], m12, []⟩)) (
some ⟨.exit 0, [b0, b1, b2, b3], m, []⟩)
theorem Q1400 {b0 b1 b2 b3 : Value} {m : Mem} {r : Out} (h : y1400 (LV CV) b0 b1 b2 b3 m = some r) : LV CV (.loop 1400) [b0, b1, b2, b3] m [] = some r := R_loopV (C := CV) (keep := [0, 10, 11, 12]) (b := lb1400) rfl (x := y1400 (LV CV) b0 b1 b2 b3 m) (by kernel_rfl) h
/-- (*noonmark/wire.Splitter).Feed -/
def x14 (O : Orc) (a0 a1 : Value) (m : Mem) : Option Out :=
(vIsNil .ptr false a0).bind fun v0 =>
br v0 (
some ⟨.ret, [(.slice none 0 0)], m, []⟩) (
(vLenL a1).bind fun v1 =>
lpN (O (.loop 1400) [a0, a1, v1, (.int .i64 (0))] m []) (fun id5 w2 m3 =>
if id5 = 0 then
(vCheck (w2.getD 0 undef)).bind fun v7 =>
(vFieldAddr 4 v7).bind fun v8 =>
(vLd 1 false v8 m3).bind fun v9 =>
(vCheck (w2.getD 0 undef)).bind fun v10 =>
(vFieldAddr 4 v10).bind fun v11 =>
(aSt 1 v11 (.slice none 0 0) m3).bind fun m12 =>
some ⟨.ret, [v9], m12, []⟩ else
none) (fun w2 m3 =>
some ⟨.ret, [undef], m3, []⟩) (fun p6 w2 m3 =>
some ⟨.panic p6, [], m3, []⟩))
theorem R14 {a0 a1 : Value} {m : Mem} {r : Out} (h : x14 (LV CV) a0 a1 m = some r) : LV CV (.call 14) [a0, a1] m [] = some r := R_callV (C := CV) (fn := ir14) rfl rfl rfl (Nat.le_of_ble_eq_true rfl) (x := x14 (LV CV) a0 a1 m) (by kernel_rfl) h
/-- (*noonmark/wire.Splitter).Rest -/
def x15 (O : Orc) (a0 : Value) (m : Mem) : Option Out :=
(vIsNil .ptr false a0).bind fun v0 =>
br v0 (
some ⟨.ret, [(.slice none 0 0)], m, []⟩) (
(vCheck a0).bind fun v1 =>
(vFieldAddr 1 v1).bind fun v2 =>
(vLd 1 false v2 m).bind fun v3 =>
retK (O (.call 18) [v3] m []) (fun v4 m5 =>
some ⟨.ret, [v4], m5, []⟩) (fun p6 m7 => some ⟨.panic p6, [], m7, []⟩))
theorem R15 {a0 : Value} {m : Mem} {r : Out} (h : x15 (LV CV) a0 m = some r) : LV CV (.call 15) [a0] m [] = some r := R_callV (C := CV) (fn := ir15) rfl rfl rfl (Nat.le_of_ble_eq_true rfl) (x := x15 (LV CV) a0 m) (by kernel_rfl) h
/-- internal/strconv.AppendInt -/
def x16 (O : Orc) (a0 a1 a2 : Value) (m : Mem) : Option Out :=
(aInt .u64 a1).bind fun v0 =>
(aBin .lss a1 (.int .i64 (0))).bind fun v1 =>
br v1 (
(vLit 1 1 [(.int .u8 (0))] [(0, (.int .u8 (45)))] m).bind fun r2 =>
(vApp false 1 1 a0 r2.1 r2.2).bind fun r3 =>
(aUn .neg v0).bind fun v4 =>
retK (O (.call 19) [r3.1, v4, a2] r3.2 []) (fun v5 m6 =>
some ⟨.ret, [v5], m6, []⟩) (fun p7 m8 => some ⟨.panic p7, [], m8, []⟩)) (
retK (O (.call 19) [a0, v0, a2] m []) (fun v9 m10 =>
some ⟨.ret, [v9], m10, []⟩) (fun p11 m12 => some ⟨.panic p11, [], m12, []⟩))
theorem R16 {a0 a1 a2 : Value} {m : Mem} {r : Out} (h : x16 (LV CV) a0 a1 a2 m = some r) : LV CV (.call 16) [a0, a1, a2] m [] = some r := R_callV (C := CV) (fn := ir16) rfl rfl rfl (Nat.le_of_ble_eq_true rfl) (x := x16 (LV CV) a0 a1 a2 m) (by kernel_rfl) h
/-- (*noonmark/wire.Splitter).take -/
def x17 (O : Orc) (a0 : Value) (m : Mem) : Option Out :=
(vCheck a0).bind fun v0 =>
(vFieldAddr 0 v0).bind fun v1 =>
(vLd 1 false v1 m).bind fun v2 =>
(aBin .eql v2 (.int .i64 (1))).bind fun v3 =>
br v3 (
letK (.func (.func 20) [a0].toArray [].toArray : Value) fun v4 =>
some ⟨.ret, [v4], m, []⟩) (
(aBin .eql v2 (.int .i64 (2))).bind fun v5 =>
br v5 (
letK (.func (.func 21) [a0].toArray [].toArray : Value) fun v6 =>
some ⟨.ret, [v6], m, []⟩) (
letK (.func (.func 22) [a0].toArray [].toArray : Value) fun v7 =>
some ⟨.ret, [v7], m, []⟩))
theorem R17 {a0 : Value} {m : Mem} {r : Out} (h : x17 (LV CV) a0 m = some r) : LV CV (.call 17) [a0] m [] = some r := R_callV (C := CV) (fn := ir17) rfl rfl rfl (Nat.le_of_ble_eq_true rfl) (x := x17 (LV CV) a0 m) (by kernel_rfl) h
/-- slices.Clone[[]byte,byte] -/
def x18 (O : Orc) (a0 : Value) (m : Mem) : Option Out :=
(vIsNil .slc false a0).bind fun v0 =>
br v0 (
some ⟨.ret, [(.slice none 0 0)], m, []⟩) (
(vLit 1 0 [(.int .u8 (0))] [] m).bind fun r1 =>
(vApp false 1 1 r1.1 a0 r1.2).bind fun r2 =>
some ⟨.ret, [r2.1], r2.2, []⟩)
theorem R18 {a0 : Value} {m : Mem} {r : Out} (h : x18 (LV CV) a0 m = some r) : LV CV (.call 18) [a0] m [] = some r := R_callV (C := CV) (fn := ir18) rfl rfl rfl (Nat.le_of_ble_eq_true rfl) (x := x18 (LV CV) a0 m) (by kernel_rfl) h
/-- internal/strconv.AppendUint -/
def x19 (O : Orc) (a0 a1 a2 : Value) (m : Mem) : Option Out :=
(aBin .eql a2 (.int .i64 (10))).bind fun v0 =>
br v0 (
(aBin .lss a1 (.int .u64 (100))).bind fun v1 =>
br v1 (
(aInt .i64 a1).bind fun v2 =>
retK (O (.call 23) [v2] m []) (fun v3 m4 =>
(vApp true 1 1 a0 v3 m4).bind fun r6 =>
some ⟨.ret, [r6.1], r6.2, []⟩) (fun p5 m7 => some ⟨.panic p5, [], m7, []⟩)) (
letK ((m).push ⟨1, [(.int .u8 (0)), (.int .u8 (0)), (.int .u8 (0)), (.int .u8 (0)), (.int .u8 (0)), (.int .u8 (0)), (.int .u8 (0)), (.int .u8 (0)), (.int .u8 (0)), (.int .u8 (0)), (.int .u8 (0)), (.int .u8 (0)), (.int .u8 (0)), (.int .u8 (0)), (.int .u8 (0)), (.int .u8 (0)), (.int .u8 (0)), (.int .u8 (0)), (.int .u8 (0)), (.int .u8 (0)), (.int .u8 (0)), (.int .u8 (0)), (.int .u8 (0)), (.int .u8 (0))]⟩) fun m8 =>
retK (O (.call 24) [a1] m8 []) (fun v9 m10 =>
(aCutArr 24 1 (.pointer (some ⟨(m).next, 0, none⟩)) none (some v9) m10).bind fun v12 =>
retK (O (.call 25) [v12, a1] m10 []) (fun v13 m14 =>
(aCutArr 24 1 (.pointer (some ⟨(m).next, 0, none⟩)) none (some v9) m14).bind fun v16 =>
(vApp false 1 1 a0 v16 m14).bind fun r17 =>
some ⟨.ret, [r17.1], r17.2, []⟩) (fun p15 m18 => some ⟨.panic p15, [], m18, []⟩)) (fun p11 m19 => some ⟨.panic p11, [], m19, []⟩))) (
retK (O (.call 26) [a0, a1, a2, (.bool false), (.bool true)] m []) (fun v20 m21 =>
(aExtract 0 v20).bind fun v23 =>
(aExtract 1 v20).bind fun v24 =>
some ⟨.ret, [v23], m21, []⟩) (fun p22 m25 => some ⟨.panic p22, [], m25, []⟩))
theorem R19 {a0 a1 a2 : Value} {m : Mem} {r : Out} (h : x19 (LV CV) a0 a1 a2 m = some r) : LV CV (.call 19) [a0, a1, a2] m [] = some r := R_callV (C := CV) (fn := ir19) rfl rfl rfl (Nat.le_of_ble_eq_true rfl) (x := x19 (LV CV) a0 a1 a2 m) (by kernel_rfl) h
/-- (*noonmark/wire.Splitter).byte -/
def x20 (O : Orc) (a0 a1 : Value) (m : Mem) : Option Out :=
(vCheck a0).bind fun v0 =>
(vFieldAddr 3 v0).bind fun v1 =>
(vLd 1 false v1 m).bind fun v2 =>
(aBin .gtr v2 (.int .i64 (0))).bind fun v3 =>
br v3 (
(vCheck a0).bind fun v4 =>
(vFieldAddr 3 v4).bind fun v5 =>
(vLd 1 false v5 m).bind fun v6 =>
(aBin .sub v6 (.int .i64 (1))).bind fun v7 =>
(vCheck a0).bind fun v8 =>
(vFieldAddr 3 v8).bind fun v9 =>
(aSt 1 v9 v7 m).bind fun m10 =>
(vCheck a0).bind fun v11 =>
(vFieldAddr 1 v11).bind fun v12 =>
(vLd 1 false v12 m10).bind fun v13 =>
(vLit 1 1 [(.int .u8 (0))] [(0, a1)] m10).bind fun r14 =>
(vApp false 1 1 v13 r14.1 r14.2).bind fun r15 =>
(vCheck a0).bind fun v16 =>
(vFieldAddr 1 v16).bind fun v17 =>
(aSt 1 v17 r15.1 r15.2).bind fun m18 =>
some ⟨.ret, [.tuple [].toArray], m18, []⟩) (
(aBin .neq a1 (.int .u8 (10))).bind fun v19 =>
br v19 (
retK (O (.call 27) [a0, a1] m []) (fun v20 m21 =>
some ⟨.ret, [.tuple [].toArray], m21, []⟩) (fun p22 m23 => some ⟨.panic p22, [], m23, []⟩)) (
(vCheck a0).bind fun v24 =>
(vFieldAddr 4 v24).bind fun v25 =>
(vLd 1 false v25 m).bind fun v26 =>
(vCheck a0).bind fun v27 =>
(vFieldAddr 1 v27).bind fun v28 =>
(vLd 1 false v28 m).bind fun v29 =>
(vCheck a0).bind fun v30 =>
(vFieldAddr 1 v30).bind fun v31 =>
(vLd 1 false v31 m).bind fun v32 =>
(vLenL v32).bind fun v33 =>
(vCheck a0).bind fun v34 =>
(vFieldAddr 2 v34).bind fun v35 =>
(vLd 1 false v35 m).bind fun v36 =>
(aBin .sub v33 v36).bind fun v37 =>
(vCut 1 v29 (some v37) none m).bind fun v38 =>
retK (O (.call 18) [v38] ((m).floor (m).next) []) (fun v39 m40 =>
(aBuild [(0, 1), (1, 1)] [(.bool false), (.slice none 0 0)] [(1, v39)]).bind fun v42 =>
(vLit 2 1 [(.bool false), (.slice none 0 0)] [(0, v42)] (m40.floor (m).lo)).bind fun r43 =>
(vApp false 2 32 v26 r43.1 r43.2).bind fun r44 =>
(vCheck a0).bind fun v45 =>
(vFieldAddr 4 v45).bind fun v46 =>
(aSt 1 v46 r44.1 r44.2).bind fun m47 =>
retK (O (.call 28) [a0] m47 []) (fun v48 m49 =>
some ⟨.ret, [.tuple [].toArray], m49, []⟩) (fun p50 m51 => some ⟨.panic p50, [], m51, []⟩)) (fun p41 m52 => none)))
theorem R20 {a0 a1 : Value} {m : Mem} {r : Out} (h : x20 (LV CV) a0 a1 m = some r) : LV CV (.call 20) [a0, a1] m [] = some r := R_callV (C := CV) (fn := ir20) rfl rfl rfl (Nat.le_of_ble_eq_true rfl) (x := x20 (LV CV) a0 a1 m) (by kernel_rfl) h
/-- (*noonmark/wire.Splitter).pass -/
def x21 (O : Orc) (a0 a1 : Value) (m : Mem) : Option Out :=
(aBin .eql a1 (.int .u8 (10))).bind fun v0 =>
br v0 (
retK (O (.call 28) [a0] m []) (fun v1 m2 =>
some ⟨.ret, [.tuple [].toArray], m2, []⟩) (fun p3 m4 => some ⟨.panic p3, [], m4, []⟩)) (
some ⟨.ret, [.tuple [].toArray], m, []⟩)
theorem R21 {a0 a1 : Value} {m : Mem} {r : Out} (h : x21 (LV CV) a0 a1 m = some r) : LV CV (.call 21) [a0, a1] m [] = some r := R_callV (C := CV) (fn := ir21) rfl rfl rfl (Nat.le_of_ble_eq_true rfl) (x := x21 (LV CV) a0 a1 m) (by kernel_rfl) h
/-- (*noonmark/wire.Splitter).digit -/
def x22 (O : Orc) (a0 a1 : Value) (m : Mem) : Option Out :=
(vCheck a0).bind fun v0 =>
(vFieldAddr 1 v0).bind fun v1 =>
(vLd 1 false v1 m).bind fun v2 =>
(vLenL v2).bind fun v3 =>
cutN (
(aBin .leq (.int .u8 (48)) a1).bind fun v9 =>
br v9 (
(aBin .leq a1 (.int .u8 (57))).bind fun v10 =>
br v10 (
(aBin .eql v3 (.int .i64 (5))).bind fun v11 =>
br v11 (
retK (O (.call 27) [a0, a1] m []) (fun v12 m13 =>
some ⟨.ret, [a0, a1], m13, []⟩) (fun p14 m15 => some ⟨.panic p14, [a0, a1], m15, []⟩)) (
(aBin .gtr v3 (.int .i64 (0))).bind fun v16 =>
br v16 (
(vCheck a0).bind fun v17 =>
(vFieldAddr 2 v17).bind fun v18 =>
(vLd 1 false v18 m).bind fun v19 =>
(aBin .eql v19 (.int .i64 (0))).bind fun v20 =>
br v20 (
retK (O (.call 27) [a0, a1] m []) (fun v21 m22 =>
some ⟨.ret, [a0, a1], m22, []⟩) (fun p23 m24 => some ⟨.panic p23, [a0, a1], m24, []⟩)) (
(vCheck a0).bind fun v25 =>
(vFieldAddr 2 v25).bind fun v26 =>
(vLd 1 false v26 m).bind fun v27 =>
(aBin .mul v27 (.int .i64 (10))).bind fun v28 =>
(aBin .sub a1 (.int .u8 (48))).bind fun v29 =>
(aInt .i64 v29).bind fun v30 =>
(aBin .add v28 v30).bind fun v31 =>
(vCheck a0).bind fun v32 =>
(vFieldAddr 2 v32).bind fun v33 =>
(aSt 1 v33 v31 m).bind fun m34 =>
some ⟨.normal, [a0, a1], m34, []⟩)) (
(vCheck a0).bind fun v35 =>
(vFieldAddr 2 v35).bind fun v36 =>
(vLd 1 false v36 m).bind fun v37 =>
(aBin .mul v37 (.int .i64 (10))).bind fun v38 =>
(aBin .sub a1 (.int .u8 (48))).bind fun v39 =>
(aInt .i64 v39).bind fun v40 =>
(aBin .add v38 v40).bind fun v41 =>
(vCheck a0).bind fun v42 =>
(vFieldAddr 2 v42).bind fun v43 =>
(aSt 1 v43 v41 m).bind fun m44 =>
some ⟨.normal, [a0, a1], m44, []⟩))) (
cutN (
(aBin .neq a1 (.int .u8 (58))).bind fun v50 =>
br v50 (
some ⟨.normal, [a0, a1, v50], m, []⟩) (
(aBin .eql v3 (.int .i64 (0))).bind fun v51 =>
br v51 (
some ⟨.normal, [a0, a1, v51], m, []⟩) (
(vCheck a0).bind fun v52 =>
(vFieldAddr 2 v52).bind fun v53 =>
(vLd 1 false v53 m).bind fun v54 =>
(aBin .gtr v54 (.int .i64 (20000))).bind fun v55 =>
some ⟨.normal, [a0, a1, v55], m, []⟩))) (fun w45 m46 =>
br (w45.getD 2 undef) (
retK (O (.call 27) [(w45.getD 0 undef), (w45.getD 1 undef)] m46 []) (fun v56 m57 =>
some ⟨.ret, [(w45.getD 0 undef), (w45.getD 1 undef)], m57, []⟩) (fun p58 m59 => some ⟨.panic p58, [(w45.getD 0 undef), (w45.getD 1 undef)], m59, []⟩)) (
(vCheck (w45.getD 0 undef)).bind fun v60 =>
(vFieldAddr 2 v60).bind fun v61 =>
(vLd 1 false v61 m46).bind fun v62 =>
(vCheck (w45.getD 0 undef)).bind fun v63 =>
(vFieldAddr 0 v63).bind fun v64 =>
(aSt 1 v64 (.int .i64 (1)) m46).bind fun m65 =>
(vCheck (w45.getD 0 undef)).bind fun v66 =>
(vFieldAddr 3 v66).bind fun v67 =>
(aSt 1 v67 v62 m65).bind fun m68 =>
some ⟨.normal, [(w45.getD 0 undef), (w45.getD 1 undef)], m68, []⟩)) (fun id48 w45 m46 =>
if id48 = 0 then
some ⟨.normal, [(w45.getD 0 undef), (w45.getD 1 undef)], m46, []⟩ else
some ⟨.exit id48, [(w45.getD 0 undef), (w45.getD 1 undef)], m46, []⟩) (fun w45 m46 =>
some ⟨.ret, [(w45.getD 0 undef), (w45.getD 1 undef)], m46, []⟩) (fun p49 w45 m46 =>
some ⟨.panic p49, [(w45.getD 0 undef), (w45.getD 1 undef)], m46, []⟩))) (
cutN (
(aBin .neq a1 (.int .u8 (58))).bind fun v74 =>
br v74 (
some ⟨.normal, [a0, a1, v74], m, []⟩) (
(aBin .eql v3 (.int .i64 (0))).bind fun v75 =>
br v75 (
some ⟨.normal, [a0, a1, v75], m, []⟩) (
(vCheck a0).bind fun v76 =>
(vFieldAddr 2 v76).bind fun v77 =>
(vLd 1 false v77 m).bind fun v78 =>
(aBin .gtr v78 (.int .i64 (20000))).bind fun v79 =>
some ⟨.normal, [a0, a1, v79], m, []⟩))) (fun w69 m70 =>
br (w69.getD 2 undef) (
retK (O (.call 27) [(w69.getD 0 undef), (w69.getD 1 undef)] m70 []) (fun v80 m81 =>
some ⟨.ret, [(w69.getD 0 undef), (w69.getD 1 undef)], m81, []⟩) (fun p82 m83 => some ⟨.panic p82, [(w69.getD 0 undef), (w69.getD 1 undef)], m83, []⟩)) (
(vCheck (w69.getD 0 undef)).bind fun v84 =>
(vFieldAddr 2 v84).bind fun v85 =>
(vLd 1 false v85 m70).bind fun v86 =>
(vCheck (w69.getD 0 undef)).bind fun v87 =>
(vFieldAddr 0 v87).bind fun v88 =>
(aSt 1 v88 (.int .i64 (1)) m70).bind fun m89 =>
(vCheck (w69.getD 0 undef)).bind fun v90 =>
(vFieldAddr 3 v90).bind fun v91 =>
(aSt 1 v91 v86 m89).bind fun m92 =>
some ⟨.normal, [(w69.getD 0 undef), (w69.getD 1 undef)], m92, []⟩)) (fun id72 w69 m70 =>
if id72 = 0 then
some ⟨.normal, [(w69.getD 0 undef), (w69.getD 1 undef)], m70, []⟩ else
some ⟨.exit id72, [(w69.getD 0 undef), (w69.getD 1 undef)], m70, []⟩) (fun w69 m70 =>
some ⟨.ret, [(w69.getD 0 undef), (w69.getD 1 undef)], m70, []⟩) (fun p73 w69 m70 =>
some ⟨.panic p73, [(w69.getD 0 undef), (w69.getD 1 undef)], m70, []⟩))) (fun w4 m5 =>
(vCheck (w4.getD 0 undef)).bind fun v93 =>
(vFieldAddr 1 v93).bind fun v94 =>
(vLd 1 false v94 m5).bind fun v95 =>
(vLit 1 1 [(.int .u8 (0))] [(0, (w4.getD 1 undef))] m5).bind fun r96 =>
(vApp false 1 1 v95 r96.1 r96.2).bind fun r97 =>
(vCheck (w4.getD 0 undef)).bind fun v98 =>
(vFieldAddr 1 v98).bind fun v99 =>
(aSt 1 v99 r97.1 r97.2).bind fun m100 =>
some ⟨.ret, [.tuple [].toArray], m100, []⟩) (fun id7 w4 m5 =>
none) (fun w4 m5 =>
some ⟨.ret, [.tuple [].toArray], m5, []⟩) (fun p8 w4 m5 =>
some ⟨.panic p8, [], m5, []⟩)
theorem R22 {a0 a1 : Value} {m : Mem} {r : Out} (h : x22 (LV CV) a0 a1 m = some r) : LV CV (.call 22) [a0, a1] m [] = some r := R_callV (C := CV) (fn := ir22) rfl rfl rfl (Nat.le_of_ble_eq_true rfl) (x := x22 (LV CV) a0 a1 m) (by kernel_rfl) h
def y2500 (O : Orc) (b0 b1 b2 : Value) (m : Mem) : Option Out :=
(aBin .geq b2 (.int .i64 (8))).bind fun v0 =>
br v0 (
(aBin .rem b1 (.int .u64 (100000000))).bind fun v1 =>
(aInt .u32 v1).bind fun v2 =>
(aBin .quo b1 (.int .u64 (100000000))).bind fun v3 =>
(aBin .quo v2 (.int .u32 (10000))).bind fun v4 =>
(aBin .rem v2 (.int .u32 (10000))).bind fun v5 =>
(aBin .quo v5 (.int .u32 (100))).bind fun v6 =>
(aBin .mul v6 (.int .u32 (2))).bind fun v7 =>
(aBin .rem v5 (.int .u32 (100))).bind fun v8 =>
(aBin .mul v8 (.int .u32 (2))).bind fun v9 =>
(aBin .quo v4 (.int .u32 (100))).bind fun v10 =>
(aBin .mul v10 (.int .u32 (2))).bind fun v11 =>
(aBin .rem v4 (.int .u32 (100))).bind fun v12 =>
(aBin .mul v12 (.int .u32 (2))).bind fun v13 =>
(aBin .sub b2 (.int .i64 (1))).bind fun v14 =>
(aBin .sub b2 (.int .i64 (2))).bind fun v15 =>
(aBin .add v9 (.int .u32 (1))).bind fun v16 =>
(aByte (S [48, 48, 48, 49, 48, 50, 48, 51, 48, 52, 48, 53, 48, 54, 48, 55, 48, 56, 48, 57, 49, 48, 49, 49, 49, 50, 49, 51, 49, 52, 49, 53, 49, 54, 49, 55, 49, 56, 49, 57, 50, 48, 50, 49, 50, 50, 50, 51, 50, 52, 50, 53, 50, 54, 50, 55, 50, 56, 50, 57, 51, 48, 51, 49, 51, 50, 51, 51, 51, 52, 51, 53, 51, 54, 51, 55, 51, 56, 51, 57, 52, 48, 52, 49, 52, 50, 52, 51, 52, 52, 52, 53, 52, 54, 52, 55, 52, 56, 52, 57, 53, 48, 53, 49, 53, 50, 53, 51, 53, 52, 53, 53, 53, 54, 53, 55, 53, 56, 53, 57, 54, 48, 54, 49, 54, 50, 54, 51, 54, 52, 54, 53, 54, 54, 54, 55, 54, 56, 54, 57, 55, 48, 55, 49, 55, 50, 55, 51, 55, 52, 55, 53, 55, 54, 55, 55, 55, 56, 55, 57, 56, 48, 56, 49, 56, 50, 56, 51, 56, 52, 56, 53, 56, 54, 56, 55, 56, 56, 56, 57, 57, 48, 57, 49, 57, 50, 57, 51, 57, 52, 57, 53, 57, 54, 57, 55, 57, 56, 57, 57]) v16).bind fun v17 =>
(aByte (S [48, 48, 48, 49, 48, 50, 48, 51, 48, 52, 48, 53, 48, 54, 48, 55, 48, 56, 48, 57, 49, 48, 49, 49, 49, 50, 49, 51, 49, 52, 49, 53, 49, 54, 49, 55, 49, 56, 49, 57, 50, 48, 50, 49, 50, 50, 50, 51, 50, 52, 50, 53, 50, 54, 50, 55, 50, 56, 50, 57, 51, 48, 51, 49, 51, 50, 51, 51, 51, 52, 51, 53, 51, 54, 51, 55, 51, 56, 51, 57, 52, 48, 52, 49, 52, 50, 52, 51, 52, 52, 52, 53, 52, 54, 52, 55, 52, 56, 52, 57, 53, 48, 53, 49, 53, 50, 53, 51, 53, 52, 53, 53, 53, 54, 53, 55, 53, 56, 53, 57, 54, 48, 54, 49, 54, 50, 54, 51, 54, 52, 54, 53, 54, 54, 54, 55, 54, 56, 54, 57, 55, 48, 55, 49, 55, 50, 55, 51, 55, 52, 55, 53, 55, 54, 55, 55, 55, 56, 55, 57, 56, 48, 56, 49, 56, 50, 56, 51, 56, 52, 56, 53, 56, 54, 56, 55, 56, 56, 56, 57, 57, 48, 57, 49, 57, 50, 57, 51, 57, 52, 57, 53, 57, 54, 57, 55, 57, 56, 57, 57]) v9).bind fun v18 =>
(vIdx 1 b0 v14).bind fun v19 =>
(aSt 1 v19 v17 m).bind fun m20 =>
(vIdx 1 b0 v15).bind fun v21 =>
(aSt 1 v21 v18 m20).bind fun m22 =>
(aBin .sub b2 (.int .i64 (3))).bind fun v23 =>
(aBin .sub b2 (.int .i64 (4))).bind fun v24 =>
(aBin .add v7 (.int .u32 (1))).bind fun v25 =>
(aByte (S [48, 48, 48, 49, 48, 50, 48, 51, 48, 52, 48, 53, 48, 54, 48, 55, 48, 56, 48, 57, 49, 48, 49, 49, 49, 50, 49, 51, 49, 52, 49, 53, 49, 54, 49, 55, 49, 56, 49, 57, 50, 48, 50, 49, 50, 50, 50, 51, 50, 52, 50, 53, 50, 54, 50, 55, 50, 56, 50, 57, 51, 48, 51, 49, 51, 50, 51, 51, 51, 52, 51, 53, 51, 54, 51, 55, 51, 56, 51, 57, 52, 48, 52, 49, 52, 50, 52, 51, 52, 52, 52, 53, 52, 54, 52, 55, 52, 56, 52, 57, 53, 48, 53, 49, 53, 50, 53, 51, 53, 52, 53, 53, 53, 54, 53, 55, 53, 56, 53, 57, 54, 48, 54, 49, 54, 50, 54, 51, 54, 52, 54, 53, 54, 54, 54, 55, 54, 56, 54, 57, 55, 48, 55, 49, 55, 50, 55, 51, 55, 52, 55, 53, 55, 54, 55, 55, 55, 56, 55, 57, 56, 48, 56, 49, 56, 50, 56, 51, 56, 52, 56, 53, 56, 54, 56, 55, 56, 56, 56, 57, 57, 48, 57, 49, 57, 50, 57, 51, 57, 52, 57, 53, 57, 54, 57, 55, 57, 56, 57, 57]) v25).bind fun v26 =>
(aByte (S [48, 48, 48, 49, 48, 50, 48, 51, 48, 52, 48, 53, 48, 54, 48, 55, 48, 56, 48, 57, 49, 48, 49, 49, 49, 50, 49, 51, 49, 52, 49, 53, 49, 54, 49, 55, 49, 56, 49, 57, 50, 48, 50, 49, 50, 50, 50, 51, 50, 52, 50, 53, 50, 54, 50, 55, 50, 56, 50, 57, 51, 48, 51, 49, 51, 50, 51, 51, 51, 52, 51, 53, 51, 54, 51, 55, 51, 56, 51, 57, 52, 48, 52, 49, 52, 50, 52, 51, 52, 52, 52, 53, 52, 54, 52, 55, 52, 56, 52, 57, 53, 48, 53, 49, 53, 50, 53, 51, 53, 52, 53, 53, 53, 54, 53, 55, 53, 56, 53, 57, 54, 48, 54, 49, 54, 50, 54, 51, 54, 52, 54, 53, 54, 54, 54, 55, 54, 56, 54, 57, 55, 48, 55, 49, 55, 50, 55, 51, 55, 52, 55, 53, 55, 54, 55, 55, 55, 56, 55, 57, 56, 48, 56, 49, 56, 50, 56, 51, 56, 52, 56, 53, 56, 54, 56, 55, 56, 56, 56, 57, 57, 48, 57, 49, 57, 50, 57, 51, 57, 52, 57, 53, 57, 54, 57, 55, 57, 56, 57, 57]) v7).bind fun v27 =>
(vIdx 1 b0 v23).bind fun v28 =>
(aSt 1 v28 v26 m22).bind fun m29 =>
(vIdx 1 b0 v24).bind fun v30 =>
(aSt 1 v30 v27 m29).bind fun m31 =>
(aBin .sub b2 (.int .i64 (5))).bind fun v32 =>
(aBin .sub b2 (.int .i64 (6))).bind fun v33 =>
(aBin .add v13 (.int .u32 (1))).bind fun v34 =>
(aByte (S [48, 48, 48, 49, 48, 50, 48, 51, 48, 52, 48, 53, 48, 54, 48, 55, 48, 56, 48, 57, 49, 48, 49, 49, 49, 50, 49, 51, 49, 52, 49, 53, 49, 54, 49, 55, 49, 56, 49, 57, 50, 48, 50, 49, 50, 50, 50, 51, 50, 52, 50, 53, 50, 54, 50, 55, 50, 56, 50, 57, 51, 48, 51, 49, 51, 50, 51, 51, 51, 52, 51, 53, 51, 54, 51, 55, 51, 56, 51, 57, 52, 48, 52, 49, 52, 50, 52, 51, 52, 52, 52, 53, 52, 54, 52, 55, 52, 56, 52, 57, 53, 48, 53, 49, 53, 50, 53, 51, 53, 52, 53, 53, 53, 54, 53, 55, 53, 56, 53, 57, 54, 48, 54, 49, 54, 50, 54, 51, 54, 52, 54, 53, 54, 54, 54, 55, 54, 56, 54, 57, 55, 48, 55, 49, 55, 50, 55, 51, 55, 52, 55, 53, 55, 54, 55, 55, 55, 56, 55, 57, 56, 48, 56, 49, 56, 50, 56, 51, 56, 52, 56, 53, 56, 54, 56, 55, 56, 56, 56, 57, 57, 48, 57, 49, 57, 50, 57, 51, 57, 52, 57, 53, 57, 54, 57, 55, 57, 56, 57, 57]) v34).bind fun v35 =>
(aByte (S [48, 48, 48, 49, 48, 50, 48, 51, 48, 52, 48, 53, 48, 54, 48, 55, 48, 56, 48, 57, 49, 48, 49, 49, 49, 50, 49, 51, 49, 52, 49, 53, 49, 54, 49, 55, 49, 56, 49, 57, 50, 48, 50, 49, 50, 50, 50, 51, 50, 52, 50, 53, 50, 54, 50, 55, 50, 56, 50, 57, 51, 48, 51, 49, 51, 50, 51, 51, 51, 52, 51, 53, 51, 54, 51, 55, 51, 56, 51, 57, 52, 48, 52, 49, 52, 50, 52, 51, 52, 52, 52, 53, 52, 54, 52, 55, 52, 56, 52, 57, 53, 48, 53, 49, 53, 50, 53, 51, 53, 52, 53, 53, 53, 54, 53, 55, 53, 56, 53, 57, 54, 48, 54, 49, 54, 50, 54, 51, 54, 52, 54, 53, 54, 54, 54, 55, 54, 56, 54, 57, 55, 48, 55, 49, 55, 50, 55, 51, 55, 52, 55, 53, 55, 54, 55, 55, 55, 56, 55, 57, 56, 48, 56, 49, 56, 50, 56, 51, 56, 52, 56, 53, 56, 54, 56, 55, 56, 56, 56, 57, 57, 48, 57, 49, 57, 50, 57, 51, 57, 52, 57, 53, 57, 54, 57, 55, 57, 56, 57, 57]) v13).bind fun v36 =>
(vIdx 1 b0 v32).bind fun v37 =>
(aSt 1 v37 v35 m31).bind fun m38 =>
(vIdx 1 b0 v33).bind fun v39 =>
(aSt 1 v39 v36 m38).bind fun m40 =>
(aBin .sub b2 (.int .i64 (7))).bind fun v41 =>
(aBin .sub b2 (.int .i64 (8))).bind fun v42 =>
(aBin .add v11 (.int .u32 (1))).bind fun v43 =>
(aByte (S [48, 48, 48, 49, 48, 50, 48, 51, 48, 52, 48, 53, 48, 54, 48, 55, 48, 56, 48, 57, 49, 48, 49, 49, 49, 50, 49, 51, 49, 52, 49, 53, 49, 54, 49, 55, 49, 56, 49, 57, 50, 48, 50, 49, 50, 50, 50, 51, 50, 52, 50, 53, 50, 54, 50, 55, 50, 56, 50, 57, 51, 48, 51, 49, 51, 50, 51, 51, 51, 52, 51, 53, 51, 54, 51, 55, 51, 56, 51, 57, 52, 48, 52, 49, 52, 50, 52, 51, 52, 52, 52, 53, 52, 54, 52, 55, 52, 56, 52, 57, 53, 48, 53, 49, 53, 50, 53, 51, 53, 52, 53, 53, 53, 54, 53, 55, 53, 56, 53, 57, 54, 48, 54, 49, 54, 50, 54, 51, 54, 52, 54, 53, 54, 54, 54, 55, 54, 56, 54, 57, 55, 48, 55, 49, 55, 50, 55, 51, 55, 52, 55, 53, 55, 54, 55, 55, 55, 56, 55, 57, 56, 48, 56, 49, 56, 50, 56, 51, 56, 52, 56, 53, 56, 54, 56, 55, 56, 56, 56, 57, 57, 48, 57, 49, 57, 50, 57, 51, 57, 52, 57, 53, 57, 54, 57, 55, 57, 56, 57, 57]) v43).bind fun v44 =>
(aByte (S [48, 48, 48, 49, 48, 50, 48, 51, 48, 52, 48, 53, 48, 54, 48, 55, 48, 56, 48, 57, 49, 48, 49, 49, 49, 50, 49, 51, 49, 52, 49, 53, 49, 54, 49, 55, 49, 56, 49, 57, 50, 48, 50, 49, 50, 50, 50, 51, 50, 52, 50, 53, 50, 54, 50, 55, 50, 56, 50, 57, 51, 48, 51, 49, 51, 50, 51, 51, 51, 52, 51, 53, 51, 54, 51, 55, 51, 56, 51, 57, 52, 48, 52, 49, 52, 50, 52, 51, 52, 52, 52, 53, 52, 54, 52, 55, 52, 56, 52, 57, 53, 48, 53, 49, 53, 50, 53, 51, 53, 52, 53, 53, 53, 54, 53, 55, 53, 56, 53, 57, 54, 48, 54, 49, 54, 50, 54, 51, 54, 52, 54, 53, 54, 54, 54, 55, 54, 56, 54, 57, 55, 48, 55, 49, 55, 50, 55, 51, 55, 52, 55, 53, 55, 54, 55, 55, 55, 56, 55, 57, 56, 48, 56, 49, 56, 50, 56, 51, 56, 52, 56, 53, 56, 54, 56, 55, 56, 56, 56, 57, 57, 48, 57, 49, 57, 50, 57, 51, 57, 52, 57, 53, 57, 54, 57, 55, 57, 56, 57, 57]) v11).bind fun v45 =>
(vIdx 1 b0 v41).bind fun v46 =>
(aSt 1 v46 v44 m40).bind fun m47 =>
(vIdx 1 b0 v42).bind fun v48 =>
(aSt 1 v48 v45 m47).bind fun m49 =>
(aBin .sub b2 (.int .i64 (8))).bind fun v50 =>
O (.loop 2500) [b0, v3, v50] m49 []) (
some ⟨.exit 0, [b0, b1, b2], m, []⟩)
theorem Q2500 {b0 b1 b2 : Value} {m : Mem} {r : Out} (h : y2500 (LV CV) b0 b1 b2 m = some r) : LV CV (.loop 2500) [b0, b1, b2] m [] = some r := R_loopV (C := CV) (keep := [0, 1, 4]) (b := lb2500) rfl (x := y2500 (LV CV) b0 b1 b2 m) (by kernel_rfl) h
/-- internal/strconv.formatBase10 -/
def x25 (O : Orc) (a0 a1 : Value) (m : Mem) : Option Out :=
(vLenL a0).bind fun v0 =>
lpN (O (.loop 2500) [a0, a1, v0] m []) (fun id4 w1 m2 =>
if id4 = 0 then
(aInt .u32 (w1.getD 1 undef)).bind fun v6 =>
cutN (
(aBin .geq (w1.getD 2 undef) (.int .i64 (4))).bind fun v12 =>
br v12 (
(aBin .rem v6 (.int .u32 (10000))).bind fun v13 =>
(aBin .quo v6 (.int .u32 (10000))).bind fun v14 =>
(aBin .quo v13 (.int .u32 (100))).bind fun v15 =>
(aBin .mul v15 (.int .u32 (2))).bind fun v16 =>
(aBin .rem v13 (.int .u32 (100))).bind fun v17 =>
(aBin .mul v17 (.int .u32 (2))).bind fun v18 =>
(aBin .sub (w1.getD 2 undef) (.int .i64 (1))).bind fun v19 =>
(aBin .sub (w1.getD 2 undef) (.int .i64 (2))).bind fun v20 =>
(aBin .add v18 (.int .u32 (1))).bind fun v21 =>
(aByte (S [48, 48, 48, 49, 48, 50, 48, 51, 48, 52, 48, 53, 48, 54, 48, 55, 48, 56, 48, 57, 49, 48, 49, 49, 49, 50, 49, 51, 49, 52, 49, 53, 49, 54, 49, 55, 49, 56, 49, 57, 50, 48, 50, 49, 50, 50, 50, 51, 50, 52, 50, 53, 50, 54, 50, 55, 50, 56, 50, 57, 51, 48, 51, 49, 51, 50, 51, 51, 51, 52, 51, 53, 51, 54, 51, 55, 51, 56, 51, 57, 52, 48, 52, 49, 52, 50, 52, 51, 52, 52, 52, 53, 52, 54, 52, 55, 52, 56, 52, 57, 53, 48, 53, 49, 53, 50, 53, 51, 53, 52, 53, 53, 53, 54, 53, 55, 53, 56, 53, 57, 54, 48, 54, 49, 54, 50, 54, 51, 54, 52, 54, 53, 54, 54, 54, 55, 54, 56, 54, 57, 55, 48, 55, 49, 55, 50, 55, 51, 55, 52, 55, 53, 55, 54, 55, 55, 55, 56, 55, 57, 56, 48, 56, 49, 56, 50, 56, 51, 56, 52, 56, 53, 56, 54, 56, 55, 56, 56, 56, 57, 57, 48, 57, 49, 57, 50, 57, 51, 57, 52, 57, 53, 57, 54, 57, 55, 57, 56, 57, 57]) v21).bind fun v22 =>
(aByte (S [48, 48, 48, 49, 48, 50, 48, 51, 48, 52, 48, 53, 48, 54, 48, 55, 48, 56, 48, 57, 49, 48, 49, 49, 49, 50, 49, 51, 49, 52, 49, 53, 49, 54, 49, 55, 49, 56, 49, 57, 50, 48, 50, 49, 50, 50, 50, 51, 50, 52, 50, 53, 50, 54, 50, 55, 50, 56, 50, 57, 51, 48, 51, 49, 51, 50, 51, 51, 51, 52, 51, 53, 51, 54, 51, 55, 51, 56, 51, 57, 52, 48, 52, 49, 52, 50, 52, 51, 52, 52, 52, 53, 52, 54, 52, 55, 52, 56, 52, 57, 53, 48, 53, 49, 53, 50, 53, 51, 53, 52, 53, 53, 53, 54, 53, 55, 53, 56, 53, 57, 54, 48, 54, 49, 54, 50, 54, 51, 54, 52, 54, 53, 54, 54, 54, 55, 54, 56, 54, 57, 55, 48, 55, 49, 55, 50, 55, 51, 55, 52, 55, 53, 55, 54, 55, 55, 55, 56, 55, 57, 56, 48, 56, 49, 56, 50, 56, 51, 56, 52, 56, 53, 56, 54, 56, 55, 56, 56, 56, 57, 57, 48, 57, 49, 57, 50, 57, 51, 57, 52, 57, 53, 57, 54, 57, 55, 57, 56, 57, 57]) v18).bind fun v23 =>
(vIdx 1 (w1.getD 0 undef) v19).bind fun v24 =>
(aSt 1 v24 v22 m2).bind fun m25 =>
(vIdx 1 (w1.getD 0 undef) v20).bind fun v26 =>
(aSt 1 v26 v23 m25).bind fun m27 =>
(aBin .sub (w1.getD 2 undef) (.int .i64 (3))).bind fun v28 =>
(aBin .sub (w1.getD 2 undef) (.int .i64 (4))).bind fun v29 =>
(aBin .add v16 (.int .u32 (1))).bind fun v30 =>
(aByte (S [48, 48, 48, 49, 48, 50, 48, 51, 48, 52, 48, 53, 48, 54, 48, 55, 48, 56, 48, 57, 49, 48, 49, 49, 49, 50, 49, 51, 49, 52, 49, 53, 49, 54, 49, 55, 49, 56, 49, 57, 50, 48, 50, 49, 50, 50, 50, 51, 50, 52, 50, 53, 50, 54, 50, 55, 50, 56, 50, 57, 51, 48, 51, 49, 51, 50, 51, 51, 51, 52, 51, 53, 51, 54, 51, 55, 51, 56, 51, 57, 52, 48, 52, 49, 52, 50, 52, 51, 52, 52, 52, 53, 52, 54, 52, 55, 52, 56, 52, 57, 53, 48, 53, 49, 53, 50, 53, 51, 53, 52, 53, 53, 53, 54, 53, 55, 53, 56, 53, 57, 54, 48, 54, 49, 54, 50, 54, 51, 54, 52, 54, 53, 54, 54, 54, 55, 54, 56, 54, 57, 55, 48, 55, 49, 55, 50, 55, 51, 55, 52, 55, 53, 55, 54, 55, 55, 55, 56, 55, 57, 56, 48, 56, 49, 56, 50, 56, 51, 56, 52, 56, 53, 56, 54, 56, 55, 56, 56, 56, 57, 57, 48, 57, 49, 57, 50, 57, 51, 57, 52, 57, 53, 57, 54, 57, 55, 57, 56, 57, 57]) v30).bind fun v31 =>
(aByte (S [48, 48, 48, 49, 48, 50, 48, 51, 48, 52, 48, 53, 48, 54, 48, 55, 48, 56, 48, 57, 49, 48, 49, 49, 49, 50, 49, 51, 49, 52, 49, 53, 49, 54, 49, 55, 49, 56, 49, 57, 50, 48, 50, 49, 50, 50, 50, 51, 50, 52, 50, 53, 50, 54, 50, 55, 50, 56, 50, 57, 51, 48, 51, 49, 51, 50, 51, 51, 51, 52, 51, 53, 51, 54, 51, 55, 51, 56, 51, 57, 52, 48, 52, 49, 52, 50, 52, 51, 52, 52, 52, 53, 52, 54, 52, 55, 52, 56, 52, 57, 53, 48, 53, 49, 53, 50, 53, 51, 53, 52, 53, 53, 53, 54, 53, 55, 53, 56, 53, 57, 54, 48, 54, 49, 54, 50, 54, 51, 54, 52, 54, 53, 54, 54, 54, 55, 54, 56, 54, 57, 55, 48, 55, 49, 55, 50, 55, 51, 55, 52, 55, 53, 55, 54, 55, 55, 55, 56, 55, 57, 56, 48, 56, 49, 56, 50, 56, 51, 56, 52, 56, 53, 56, 54, 56, 55, 56, 56, 56, 57, 57, 48, 57, 49, 57, 50, 57, 51, 57, 52, 57, 53, 57, 54, 57, 55, 57, 56, 57, 57]) v16).bind fun v32 =>
(vIdx 1 (w1.getD 0 undef) v28).bind fun v33 =>
(aSt 1 v33 v31 m27).bind fun m34 =>
(vIdx 1 (w1.getD 0 undef) v29).bind fun v35 =>
(aSt 1 v35 v32 m34).bind fun m36 =>
(aBin .sub (w1.getD 2 undef) (.int .i64 (4))).bind fun v37 =>
some ⟨.normal, [(w1.getD 0 undef), v37, v14], m36, []⟩) (
some ⟨.normal, [(w1.getD 0 undef), (w1.getD 2 undef), v6], m2, []⟩)) (fun w7 m8 =>
(aBin .geq (w7.getD 1 undef) (.int .i64 (2))).bind fun v38 =>
br v38 (
(aBin .rem (w7.getD 2 undef) (.int .u32 (100))).bind fun v39 =>
(aBin .mul v39 (.int .u32 (2))).bind fun v40 =>
(aBin .quo (w7.getD 2 undef) (.int .u32 (100))).bind fun v41 =>
(aBin .sub (w7.getD 1 undef) (.int .i64 (1))).bind fun v42 =>
(aBin .sub (w7.getD 1 undef) (.int .i64 (2))).bind fun v43 =>
(aBin .add v40 (.int .u32 (1))).bind fun v44 =>
(aByte (S [48, 48, 48, 49, 48, 50, 48, 51, 48, 52, 48, 53, 48, 54, 48, 55, 48, 56, 48, 57, 49, 48, 49, 49, 49, 50, 49, 51, 49, 52, 49, 53, 49, 54, 49, 55, 49, 56, 49, 57, 50, 48, 50, 49, 50, 50, 50, 51, 50, 52, 50, 53, 50, 54, 50, 55, 50, 56, 50, 57, 51, 48, 51, 49, 51, 50, 51, 51, 51, 52, 51, 53, 51, 54, 51, 55, 51, 56, 51, 57, 52, 48, 52, 49, 52, 50, 52, 51, 52, 52, 52, 53, 52, 54, 52, 55, 52, 56, 52, 57, 53, 48, 53, 49, 53, 50, 53, 51, 53, 52, 53, 53, 53, 54, 53, 55, 53, 56, 53, 57, 54, 48, 54, 49, 54, 50, 54, 51, 54, 52, 54, 53, 54, 54, 54, 55, 54, 56, 54, 57, 55, 48, 55, 49, 55, 50, 55, 51, 55, 52, 55, 53, 55, 54, 55, 55, 55, 56, 55, 57, 56, 48, 56, 49, 56, 50, 56, 51, 56, 52, 56, 53, 56, 54, 56, 55, 56, 56, 56, 57, 57, 48, 57, 49, 57, 50, 57, 51, 57, 52, 57, 53, 57, 54, 57, 55, 57, 56, 57, 57]) v44).bind fun v45 =>
(aByte (S [48, 48, 48, 49, 48, 50, 48, 51, 48, 52, 48, 53, 48, 54, 48, 55, 48, 56, 48, 57, 49, 48, 49, 49, 49, 50, 49, 51, 49, 52, 49, 53, 49, 54, 49, 55, 49, 56, 49, 57, 50, 48, 50, 49, 50, 50, 50, 51, 50, 52, 50, 53, 50, 54, 50, 55, 50, 56, 50, 57, 51, 48, 51, 49, 51, 50, 51, 51, 51, 52, 51, 53, 51, 54, 51, 55, 51, 56, 51, 57, 52, 48, 52, 49, 52, 50, 52, 51, 52, 52, 52, 53, 52, 54, 52, 55, 52, 56, 52, 57, 53, 48, 53, 49, 53, 50, 53, 51, 53, 52, 53, 53, 53, 54, 53, 55, 53, 56, 53, 57, 54, 48, 54, 49, 54, 50, 54, 51, 54, 52, 54, 53, 54, 54, 54, 55, 54, 56, 54, 57, 55, 48, 55, 49, 55, 50, 55, 51, 55, 52, 55, 53, 55, 54, 55, 55, 55, 56, 55, 57, 56, 48, 56, 49, 56, 50, 56, 51, 56, 52, 56, 53, 56, 54, 56, 55, 56, 56, 56, 57, 57, 48, 57, 49, 57, 50, 57, 51, 57, 52, 57, 53, 57, 54, 57, 55, 57, 56, 57, 57]) v40).bind fun v46 =>
(vIdx 1 (w7.getD 0 undef) v42).bind fun v47 =>
(aSt 1 v47 v45 m8).bind fun m48 =>
(vIdx 1 (w7.getD 0 undef) v43).bind fun v49 =>
(aSt 1 v49 v46 m48).bind fun m50 =>
(aBin .sub (w7.getD 1 undef) (.int .i64 (2))).bind fun v51 =>
(aBin .gtr v51 (.int .i64 (0))).bind fun v52 =>
br v52 (
(aBin .add (.int .u32 (48)) v41).bind fun v53 =>
(aInt .u8 v53).bind fun v54 =>
(vIdx 1 (w7.getD 0 undef) (.int .i64 (0))).bind fun v55 =>
(aSt 1 v55 v54 m50).bind fun m56 =>
some ⟨.ret, [.tuple [].toArray], m56, []⟩) (
some ⟨.ret, [.tuple [].toArray], m50, []⟩)) (
(aBin .gtr (w7.getD 1 undef) (.int .i64 (0))).bind fun v57 =>
br v57 (
(aBin .add (.int .u32 (48)) (w7.getD 2 undef)).bind fun v58 =>
(aInt .u8 v58).bind fun v59 =>
(vIdx 1 (w7.getD 0 undef) (.int .i64 (0))).bind fun v60 =>
(aSt 1 v60 v59 m8).bind fun m61 =>
some ⟨.ret, [.tuple [].toArray], m61, []⟩) (
some ⟨.ret, [.tuple [].toArray], m8, []⟩))) (fun id10 w7 m8 =>
none) (fun w7 m8 =>
some ⟨.ret, [.tuple [].toArray], m8, []⟩) (fun p11 w7 m8 =>
some ⟨.panic p11, [], m8, []⟩) else
none) (fun w1 m2 =>
some ⟨.ret, [.tuple [].toArray], m2, []⟩) (fun p5 w1 m2 =>
some ⟨.panic p5, [], m2, []⟩)
theorem R25 {a0 a1 : Value} {m : Mem} {r : Out} (h : x25 (LV CV) a0 a1 m = some r) : LV CV (.call 25) [a0, a1] m [] = some r := R_callV (C := CV) (fn := ir25) rfl rfl rfl (Nat.le_of_ble_eq_true rfl) (x := x25 (LV CV) a0 a1 m) (by kernel_rfl) h
def y2600 (O : Orc) (b0 b1 b2 b3 b4 b5 b6 b7 b8 b9 b10 : Value) (m : Mem) : Option Out :=
(aBin .geq b1 b9).bind fun v0 =>
br v0 (
(aBin .sub b7 (.int .i64 (1))).bind fun v1 =>
(aBin .and b1 b10).bind fun v2 =>
(aByte (S [48, 49, 50, 51, 52, 53, 54, 55, 56, 57, 97, 98, 99, 100, 101, 102, 103, 104, 105, 106, 107, 108, 109, 110, 111, 112, 113, 114, 115, 116, 117, 118, 119, 120, 121, 122]) v2).bind fun v3 =>
(vIdxArr 65 1 b6 v1).bind fun v4 =>
(aSt 1 v4 v3 m).bind fun m5 =>
(aBin .shr b1 b8).bind fun v6 =>
O (.loop 2600) [b0, v6, b2, b3, b4, b5, b6, v1, b8, b9, b10] m5 []) (
some ⟨.exit 0, [b0, b1, b2, b3, b4, b5, b6, b7, b8, b9, b10], m, []⟩)
theorem Q2600 {b0 b1 b2 b3 b4 b5 b6 b7 b8 b9 b10 : Value} {m : Mem} {r : Out} (h : y2600 (LV CV) b0 b1 b2 b3 b4 b5 b6 b7 b8 b9 b10 m = some r) : LV CV (.loop 2600) [b0, b1, b2, b3, b4, b5, b6, b7, b8, b9, b10] m [] = some r := R_loopV (C := CV) (keep := [0, 1, 3, 4, 10, 11, 12, 13, 14, 15, 16]) (b := lb2600) rfl (x := y2600 (LV CV) b0 b1 b2 b3 b4 b5 b6 b7 b8 b9 b10 m) (by kernel_rfl) h
def y2601 (O : Orc) (b0 b1 b2 b3 b4 b5 b6 b7 b8 : Value) (m : Mem) : Option Out :=
(aBin .geq b1 b8).bind fun v0 =>
br v0 (
(aBin .sub b7 (.int .i64 (1))).bind fun v1 =>
(aBin .quo b1 b8).bind fun v2 =>
(aBin .mul v2 b8).bind fun v3 =>
(aBin .sub b1 v3).bind fun v4 =>
(aByte (S [48, 49, 50, 51, 52, 53, 54, 55, 56, 57, 97, 98, 99, 100, 101, 102, 103, 104, 105, 106, 107, 108, 109, 110, 111, 112, 113, 114, 115, 116, 117, 118, 119, 120, 121, 122]) v4).bind fun v5 =>
(vIdxArr 65 1 b6 v1).bind fun v6 =>
(aSt 1 v6 v5 m).bind fun m7 =>
O (.loop 2601) [b0, v2, b2, b3, b4, b5, b6, v1, b8] m7 []) (
some ⟨.exit 2, [b0, b1, b2, b3, b4, b5, b6, b7, b8], m, []⟩)
theorem Q2601 {b0 b1 b2 b3 b4 b5 b6 b7 b8 : Value} {m : Mem} {r : Out} (h : y2601 (LV CV) b0 b1 b2 b3 b4 b5 b6 b7 b8 m = some r) : LV CV (.loop 2601) [b0, b1, b2, b3, b4, b5, b6, b7, b8] m [] = some r := R_loopV (C := CV) (keep := [0, 1, 3, 4, 10, 11, 12, 13, 17]) (b := lb2601) rfl (x := y2601 (LV CV) b0 b1 b2 b3 b4 b5 b6 b7 b8 m) (by kernel_rfl) h
/-- internal/strconv.formatBits -/
def x26 (O : Orc) (a0 a1 a2 a3 a4 : Value) (m : Mem) : Option Out :=
cutN (
(aBin .lss a2 (.int .i64 (2))).bind fun v5 =>
br v5 (
(vIface 9 (S [115, 116, 114, 99, 111, 110, 118, 58, 32, 105, 108, 108, 101, 103, 97, 108, 32, 65, 112, 112, 101, 110, 100, 73, 110, 116, 47, 70, 111, 114, 109, 97, 116, 73, 110, 116, 32, 98, 97, 115, 101])).bind fun v6 =>
panV v6 fun p7 => some ⟨.panic p7, [a0, a1, a2, a3, a4, (.slice none 0 0), (S [])], m, []⟩) (
(aBin .eql a2 (.int .i64 (10))).bind fun v8 =>
br v8 (
(vIface 9 (S [115, 116, 114, 99, 111, 110, 118, 58, 32, 105, 108, 108, 101, 103, 97, 108, 32, 65, 112, 112, 101, 110, 100, 73, 110, 116, 47, 70, 111, 114, 109, 97, 116, 73, 110, 116, 32, 98, 97, 115, 101])).bind fun v9 =>
panV v9 fun p10 => some ⟨.panic p10, [a0, a1, a2, a3, a4, (.slice none 0 0), (S [])], m, []⟩) (
(aBin .gtr a2 (.int .i64 (36))).bind fun v11 =>
br v11 (
(vIface 9 (S [115, 116, 114, 99, 111, 110, 118, 58, 32, 105, 108, 108, 101, 103, 97, 108, 32, 65, 112, 112, 101, 110, 100, 73, 110, 116, 47, 70, 111, 114, 109, 97, 116, 73, 110, 116, 32, 98, 97, 115, 101])).bind fun v12 =>
panV v12 fun p13 => some ⟨.panic p13, [a0, a1, a2, a3, a4, (.slice none 0 0), (S [])], m, []⟩) (
some ⟨.normal, [a0, a1, a2, a3, a4, (.slice none 0 0), (S [])], m, []⟩)))) (fun w0 m1 =>
letK ((m1).push ⟨1, [(.int .u8 (0)), (.int .u8 (0)), (.int .u8 (0)), (.int .u8 (0)), (.int .u8 (0)), (.int .u8 (0)), (.int .u8 (0)), (.int .u8 (0)), (.int .u8 (0)), (.int .u8 (0)), (.int .u8 (0)), (.int .u8 (0)), (.int .u8 (0)), (.int .u8 (0)), (.int .u8 (0)), (.int .u8 (0)), (.int .u8 (0)), (.int .u8 (0)), (.int .u8 (0)), (.int .u8 (0)), (.int .u8 (0)), (.int .u8 (0)), (.int .u8 (0)), (.int .u8 (0)), (.int .u8 (0)), (.int .u8 (0)), (.int .u8 (0)), (.int .u8 (0)), (.int .u8 (0)), (.int .u8 (0)), (.int .u8 (0)), (.int .u8 (0)), (.int .u8 (0)), (.int .u8 (0)), (.int .u8 (0)), (.int .u8 (0)), (.int .u8 (0)), (.int .u8 (0)), (.int .u8 (0)), (.int .u8 (0)), (.int .u8 (0)), (.int .u8 (0)), (.int .u8 (0)), (.int .u8 (0)), (.int .u8 (0)), (.int .u8 (0)), (.int .u8 (0)), (.int .u8 (0)), (.int .u8 (0)), (.int .u8 (0)), (.int .u8 (0)), (.int .u8 (0)), (.int .u8 (0)), (.int .u8 (0)), (.int .u8 (0)), (.int .u8 (0)), (.int .u8 (0)), (.int .u8 (0)), (.int .u8 (0)), (.int .u8 (0)), (.int .u8 (0)), (.int .u8 (0)), (.int .u8 (0)), (.int .u8 (0)), (.int .u8 (0))]⟩) fun m14 =>
cutN (
br (w0.getD 3 undef) (
(aUn .neg (w0.getD 1 undef)).bind fun v20 =>
some ⟨.normal, [(w0.getD 0 undef), v20, (w0.getD 2 undef), (w0.getD 3 undef), (w0.getD 4 undef), (w0.getD 5 undef), (w0.getD 6 undef), (.pointer (some ⟨(m1).next, 0, none⟩)), (.int .i64 (65))], m14, []⟩) (
some ⟨.normal, [(w0.getD 0 undef), (w0.getD 1 undef), (w0.getD 2 undef), (w0.getD 3 undef), (w0.getD 4 undef), (w0.getD 5 undef), (w0.getD 6 undef), (.pointer (some ⟨(m1).next, 0, none⟩)), (.int .i64 (65))], m14, []⟩)) (fun w15 m16 =>
cutN (
retK (O (.call 32) [(w15.getD 2 undef)] m16 []) (fun v26 m27 =>
br v26 (
(aInt .u64 (w15.getD 2 undef)).bind fun v29 =>
retK (O (.call 33) [v29] m27 []) (fun v30 m31 =>
(aInt .u64 v30).bind fun v33 =>
(aInt .u64 (w15.getD 2 undef)).bind fun v34 =>
(aInt .u64 (w15.getD 2 undef)).bind fun v35 =>
(aBin .sub v35 (.int .u64 (1))).bind fun v36 =>
lpN (O (.loop 2600) [(w15.getD 0 undef), (w15.getD 1 undef), (w15.getD 3 undef), (w15.getD 4 undef), (w15.getD 5 undef), (w15.getD 6 undef), (w15.getD 7 undef), (w15.getD 8 undef), v33, v34, v36] m31 []) (fun id40 w37 m38 =>
if id40 = 0 then
(aBin .sub (w37.getD 7 undef) (.int .i64 (1))).bind fun v42 =>
(aByte (S [48, 49, 50, 51, 52, 53, 54, 55, 56, 57, 97, 98, 99, 100, 101, 102, 103, 104, 105, 106, 107, 108, 109, 110, 111, 112, 113, 114, 115, 116, 117, 118, 119, 120, 121, 122]) (w37.getD 1 undef)).bind fun v43 =>
(vIdxArr 65 1 (w37.getD 6 undef) v42).bind fun v44 =>
(aSt 1 v44 v43 m38).bind fun m45 =>
some ⟨.normal, [(w37.getD 0 undef), (w37.getD 2 undef), (w37.getD 3 undef), (w37.getD 4 undef), (w37.getD 5 undef), (w37.getD 6 undef), v42], m45, []⟩ else
some ⟨.exit id40, [(w37.getD 0 undef), (w37.getD 2 undef), (w37.getD 3 undef), (w37.getD 4 undef), (w37.getD 5 undef), (w37.getD 6 undef), (w37.getD 7 undef)], m38, []⟩) (fun w37 m38 =>
some ⟨.ret, [(w37.getD 0 undef), (w37.getD 2 undef), (w37.getD 3 undef), (w37.getD 4 undef), (w37.getD 5 undef), (w37.getD 6 undef), (w37.getD 7 undef)], m38, []⟩) (fun p41 w37 m38 =>
some ⟨.panic p41, [(w37.getD 0 undef), (w37.getD 2 undef), (w37.getD 3 undef), (w37.getD 4 undef), (w37.getD 5 undef), (w37.getD 6 undef), (w37.getD 7 undef)], m38, []⟩)) (fun p32 m46 => some ⟨.panic p32, [(w15.getD 0 undef), (w15.getD 3 undef), (w15.getD 4 undef), (w15.getD 5 undef), (w15.getD 6 undef), (w15.getD 7 undef), (w15.getD 8 undef)], m46, []⟩)) (
(aInt .u64 (w15.getD 2 undef)).bind fun v47 =>
lpN (O (.loop 2601) [(w15.getD 0 undef), (w15.getD 1 undef), (w15.getD 3 undef), (w15.getD 4 undef), (w15.getD 5 undef), (w15.getD 6 undef), (w15.getD 7 undef), (w15.getD 8 undef), v47] m27 []) (fun id51 w48 m49 =>
if id51 = 2 then
(aBin .sub (w48.getD 7 undef) (.int .i64 (1))).bind fun v53 =>
(aByte (S [48, 49, 50, 51, 52, 53, 54, 55, 56, 57, 97, 98, 99, 100, 101, 102, 103, 104, 105, 106, 107, 108, 109, 110, 111, 112, 113, 114, 115, 116, 117, 118, 119, 120, 121, 122]) (w48.getD 1 undef)).bind fun v54 =>
(vIdxArr 65 1 (w48.getD 6 undef) v53).bind fun v55 =>
(aSt 1 v55 v54 m49).bind fun m56 =>
some ⟨.normal, [(w48.getD 0 undef), (w48.getD 2 undef), (w48.getD 3 undef), (w48.getD 4 undef), (w48.getD 5 undef), (w48.getD 6 undef), v53], m56, []⟩ else
some ⟨.exit id51, [(w48.getD 0 undef), (w48.getD 2 undef), (w48.getD 3 undef), (w48.getD 4 undef), (w48.getD 5 undef), (w48.getD 6 undef), (w48.getD 7 undef)], m49, []⟩) (fun w48 m49 =>
some ⟨.ret, [(w48.getD 0 undef), (w48.getD 2 undef), (w48.getD 3 undef), (w48.getD 4 undef), (w48.getD 5 undef), (w48.getD 6 undef), (w48.getD 7 undef)], m49, []⟩) (fun p52 w48 m49 =>
some ⟨.panic p52, [(w48.getD 0 undef), (w48.getD 2 undef), (w48.getD 3 undef), (w48.getD 4 undef), (w48.getD 5 undef), (w48.getD 6 undef), (w48.getD 7 undef)], m49, []⟩))) (fun p28 m57 => some ⟨.panic p28, [(w15.getD 0 undef), (w15.getD 3 undef), (w15.getD 4 undef), (w15.getD 5 undef), (w15.getD 6 undef), (w15.getD 7 undef), (w15.getD 8 undef)], m57, []⟩)) (fun w21 m22 =>
cutN (
br (w21.getD 1 undef) (
(aBin .sub (w21.getD 6 undef) (.int .i64 (1))).bind fun v63 =>
(vIdxArr 65 1 (w21.getD 5 undef) v63).bind fun v64 =>
(aSt 1 v64 (.int .u8 (45)) m22).bind fun m65 =>
some ⟨.normal, [(w21.getD 0 undef), (w21.getD 2 undef), (w21.getD 3 undef), (w21.getD 4 undef), (w21.getD 5 undef), v63], m65, []⟩) (
some ⟨.normal, [(w21.getD 0 undef), (w21.getD 2 undef), (w21.getD 3 undef), (w21.getD 4 undef), (w21.getD 5 undef), (w21.getD 6 undef)], m22, []⟩)) (fun w58 m59 =>
br (w58.getD 1 undef) (
(aCutArr 65 1 (w58.getD 4 undef) (some (w58.getD 5 undef)) none m59).bind fun v66 =>
(vApp false 1 1 (w58.getD 0 undef) v66 m59).bind fun r67 =>
some ⟨.ret, [.tuple [r67.1, (w58.getD 3 undef)].toArray], r67.2, []⟩) (
(aCutArr 65 1 (w58.getD 4 undef) (some (w58.getD 5 undef)) none m59).bind fun v68 =>
(vStr v68 m59).bind fun v69 =>
some ⟨.ret, [.tuple [(w58.getD 2 undef), v69].toArray], m59, []⟩)) (fun id61 w58 m59 =>
none) (fun w58 m59 =>
some ⟨.ret, [.tuple [(w58.getD 2 undef), (w58.getD 3 undef)].toArray], m59, []⟩) (fun p62 w58 m59 =>
some ⟨.panic p62, [], m59, []⟩)) (fun id24 w21 m22 =>
none) (fun w21 m22 =>
some ⟨.ret, [.tuple [(w21.getD 3 undef), (w21.getD 4 undef)].toArray], m22, []⟩) (fun p25 w21 m22 =>
some ⟨.panic p25, [], m22, []⟩)) (fun id18 w15 m16 =>
none) (fun w15 m16 =>
some ⟨.ret, [.tuple [(w15.getD 5 undef), (w15.getD 6 undef)].toArray], m16, []⟩) (fun p19 w15 m16 =>
some ⟨.panic p19, [], m16, []⟩)) (fun id3 w0 m1 =>
none) (fun w0 m1 =>
some ⟨.ret, [.tuple [(w0.getD 5 undef), (w0.getD 6 undef)].toArray], m1, []⟩) (fun p4 w0 m1 =>
some ⟨.panic p4, [], m1, []⟩)
theorem R26 {a0 a1 a2 a3 a4 : Value} {m : Mem} {r : Out} (h : x26 (LV CV) a0 a1 a2 a3 a4 m = some r) : LV CV (.call 26) [a0, a1, a2, a3, a4] m [] = some r := R_callV (C := CV) (fn := ir26) rfl rfl rfl (Nat.le_of_ble_eq_true rfl) (x := x26 (LV CV) a0 a1 a2 a3 a4 m) (by kernel_rfl) h
/-- (*noonmark/wire.Splitter).bad -/
def x27 (O : Orc) (a0 a1 : Value) (m : Mem) : Option Out :=
(vCheck a0).bind fun v0 =>
(vFieldAddr 4 v0).bind fun v1 =>
(vLd 1 false v1 m).bind fun v2 =>
(aBuild [(0, 1), (1, 1)] [(.bool false), (.slice none 0 0)] [(0, (.bool true))]).bind fun v3 =>
(vLit 2 1 [(.bool false), (.slice none 0 0)] [(0, v3)] m).bind fun r4 =>
(vApp false 2 32 v2 r4.1 r4.2).bind fun r5 =>
(vCheck a0).bind fun v6 =>
(vFieldAddr 4 v6).bind fun v7 =>
(aSt 1 v7 r5.1 r5.2).bind fun m8 =>
retK (O (.call 28) [a0] m8 []) (fun v9 m10 =>
(aBin .neq a1 (.int .u8 (10))).bind fun v12 =>
br v12 (
(vCheck a0).bind fun v13 =>
(vFieldAddr 0 v13).bind fun v14 =>
(aSt 1 v14 (.int .i64 (2)) m10).bind fun m15 =>
some ⟨.ret, [.tuple [].toArray], m15, []⟩) (
some ⟨.ret, [.tuple [].toArray], m10, []⟩)) (fun p11 m16 => some ⟨.panic p11, [], m16, []⟩)
theorem R27 {a0 a1 : Value} {m : Mem} {r : Out} (h : x27 (LV CV) a0 a1 m = some r) : LV CV (.call 27) [a0, a1] m [] = some r := R_callV (C := CV) (fn := ir27) rfl rfl rfl (Nat.le_of_ble_eq_true rfl) (x := x27 (LV CV) a0 a1 m) (by kernel_rfl) h
/-- (*noonmark/wire.Splitter).begin -/
def x28 (O : Orc) (a0 : Value) (m : Mem) : Option Out :=
(vCheck a0).bind fun v0 =>
(vFieldAddr 0 v0).bind fun v1 =>
(aSt 1 v1 (.int .i64 (0)) m).bind fun m2 =>
(vCheck a0).bind fun v3 =>
(vFieldAddr 1 v3).bind fun v4 =>
(aSt 1 v4 (.slice none 0 0) m2).bind fun m5 =>
(vCheck a0).bind fun v6 =>
(vFieldAddr 2 v6).bind fun v7 =>
(aSt 1 v7 (.int .i64 (0)) m5).bind fun m8 =>
(vCheck a0).bind fun v9 =>
(vFieldAddr 3 v9).bind fun v10 =>
(aSt 1 v10 (.int .i64 (0)) m8).bind fun m11 =>
some ⟨.ret, [.tuple [].toArray], m11, []⟩
theorem R28 {a0 : Value} {m : Mem} {r : Out} (h : x28 (LV CV) a0 m = some r) : LV CV (.call 28) [a0] m [] = some r := R_callV (C := CV) (fn := ir28) rfl rfl rfl (Nat.le_of_ble_eq_true rfl) (x := x28 (LV CV) a0 m) (by kernel_rfl) h
/-- internal/strconv.isPowerOfTwo -/
def x32 (O : Orc) (a0 : Value) (m : Mem) : Option Out :=
(aBin .sub a0 (.int .i64 (1))).bind fun v0 =>
(aBin .and a0 v0).bind fun v1 =>
(aBin .eql v1 (.int .i64 (0))).bind fun v2 =>
some ⟨.ret, [v2], m, []⟩
theorem R32 {a0 : Value} {m : Mem} {r : Out} (h : (x32 (LV CV) a0 ⟨[], m.next, m.next, 0⟩).bind (close m) = some r) (hc : [a0].all (clo FUEL) = true := by simp) : LV CV (.call 32) [a0] m [] = some r := R_callP (C := CV) (fn := ir32) rfl rfl rfl (Nat.le_of_ble_eq_true rfl) hc (x := x32 (LV CV) a0 ⟨[], m.next, m.next, 0⟩) (by kernel_rfl) h
/-- math/bits.TrailingZeros -/
def x33 (O : Orc) (a0 : Value) (m : Mem) : Option Out :=
retK (O (.call 35) [a0] m []) (fun v0 m1 =>
some ⟨.ret, [v0], m1, []⟩) (fun p2 m3 => some ⟨.panic p2, [], m3, []⟩)
theorem R33 {a0 : Value} {m : Mem} {r : Out} (h : (x33 (LV CV) a0 ⟨[], m.next, m.next, 0⟩).bind (close m) = some r) (hc : [a0].all (clo FUEL) = true := by simp) : LV CV (.call 33) [a0] m [] = some r := R_callP (C := CV) (fn := ir33) rfl rfl rfl (Nat.le_of_ble_eq_true rfl) hc (x := x33 (LV CV) a0 ⟨[], m.next, m.next, 0⟩) (by kernel_rfl) h
/-- math/bits.TrailingZeros32 -/
def x34 (O : Orc) (a0 : Value) (m : Mem) : Option Out :=
(aBin .eql a0 (.int .u32 (0))).bind fun v0 =>
br v0 (
some ⟨.ret, [(.int .i64 (32))], m, []⟩) (
(aUn .neg a0).bind fun v1 =>
(aBin .and a0 v1).bind fun v2 =>
(aBin .mul v2 (.int .u32 (125613361))).bind fun v3 =>
(aBin .shr v3 (.int .u64 (27))).bind fun v4 =>
(vIdxArr 32 1 undef v4).bind fun v5 =>
(vLd 1 false v5 m).bind fun v6 =>
(aInt .i64 v6).bind fun v7 =>
some ⟨.ret, [v7], m, []⟩)
theorem R34 {a0 : Value} {m : Mem} {r : Out} (h : (x34 (LV CV) a0 ⟨[], m.next, m.next, 0⟩).bind (close m) = some r) (hc : [a0].all (clo FUEL) = true := by simp) : LV CV (.call 34) [a0] m [] = some r := R_callP (C := CV) (fn := ir34) rfl rfl rfl (Nat.le_of_ble_eq_true rfl) hc (x := x34 (LV CV) a0 ⟨[], m.next, m.next, 0⟩) (by kernel_rfl) h
/-- math/bits.TrailingZeros64 -/
def x35 (O : Orc) (a0 : Value) (m : Mem) : Option Out :=
(aBin .eql a0 (.int .u64 (0))).bind fun v0 =>
br v0 (
some ⟨.ret, [(.int .i64 (64))], m, []⟩) (
(aUn .neg a0).bind fun v1 =>
(aBin .and a0 v1).bind fun v2 =>
(aBin .mul v2 (.int .u64 (285870213051353865))).bind fun v3 =>
(aBin .shr v3 (.int .u64 (58))).bind fun v4 =>
(vIdxArr 64 1 undef v4).bind fun v5 =>
(vLd 1 false v5 m).bind fun v6 =>
(aInt .i64 v6).bind fun v7 =>
some ⟨.ret, [v7], m, []⟩)
theorem R35 {a0 : Value} {m : Mem} {r : Out} (h : (x35 (LV CV) a0 ⟨[], m.next, m.next, 0⟩).bind (close m) = some r) (hc : [a0].all (clo FUEL) = true := by simp) : LV CV (.call 35) [a0] m [] = some r := R_callP (C := CV) (fn := ir35) rfl rfl rfl (Nat.le_of_ble_eq_true rfl) hc (x := x35 (LV CV) a0 ⟨[], m.next, m.next, 0⟩) (by kernel_rfl) h
end Go.Proofs.YthihiidooomdnaaDoor.D
