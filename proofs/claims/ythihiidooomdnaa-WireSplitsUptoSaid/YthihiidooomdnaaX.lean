/-
  What each function does: printed by Dtool, checked by the kernel.
-/
import Derived.Test.YthihiidooomdnaaIR
namespace Go.Proofs.Ythihiidooomdnaa.D
open Go.RowKit
set_option maxRecDepth 100000
set_option linter.unusedVariables false
/-- noonmark/noonmarklaw01.WireSplits -/
def x3 (O : Orc) (a0 : Value) (m : Mem) : Option Out :=
retK (O (.call 6) [a0] m []) (fun v0 m1 =>
(aExtract 0 v0).bind fun v3 =>
(aExtract 1 v0).bind fun v4 =>
retK (O (.call 7) [a0] m1 []) (fun v5 m6 =>
(aExtract 0 v5).bind fun v8 =>
(aExtract 1 v5).bind fun v9 =>
retK (O (.call 9) [v3] m6 []) (fun v10 m11 =>
retK (O (.call 8) [v10, v8] m11 []) (fun v13 m14 =>
br v13 (
retK (O (.call 10) [v4, v9] m14 []) (fun v16 m17 =>
br v16 (
retK (O (.call 11) [] m17 []) (fun v19 m20 =>
some ⟨.ret, [v19], m20, []⟩) (fun p21 m22 => some ⟨.panic p21, [], m22, []⟩)) (
some ⟨.ret, [(.bool false)], m17, []⟩)) (fun p18 m23 => some ⟨.panic p18, [], m23, []⟩)) (
some ⟨.ret, [(.bool false)], m14, []⟩)) (fun p15 m24 => some ⟨.panic p15, [], m24, []⟩)) (fun p12 m25 => some ⟨.panic p12, [], m25, []⟩)) (fun p7 m26 => some ⟨.panic p7, [], m26, []⟩)) (fun p2 m27 => some ⟨.panic p2, [], m27, []⟩)
theorem R3 (gv : FuncId → Option (List Value → Mem → Option (Value × Mem))) (hg : gv 3 = none) {a0 : Value} {m : Mem} {r : Out} (h : x3 (L (CC gv)) a0 m = some r) : L (CC gv) (.call 3) [a0] m [] = some r := R_call (C := CC gv) (fn := ir3) hg rfl (Nat.le_of_ble_eq_true rfl) (x := x3 (L (CC gv)) a0 m) (by kernel_rfl) h
def y400 (O : Orc) (b0 b1 b2 b3 b4 b5 : Value) (m : Mem) : Option Out :=
(aLenL b1).bind fun v0 =>
(aBin .lss b5 v0).bind fun v1 =>
br v1 (
(aIdx 1 b1 b5).bind fun v2 =>
(aLd 1 false v2 m).bind fun v3 =>
cutN (
(aBin .lss v3 (.int .i64 (0))).bind fun v9 =>
br v9 (
some ⟨.normal, [b0, b1, b2, b3, b4, b5, (.int .i64 (0))], m, []⟩) (
(aLenL b4).bind fun v10 =>
(aBin .gtr v3 v10).bind fun v11 =>
br v11 (
some ⟨.normal, [b0, b1, b2, b3, b4, b5, (.int .i64 (0))], m, []⟩) (
some ⟨.normal, [b0, b1, b2, b3, b4, b5, v3], m, []⟩))) (fun w4 m5 =>
(aCut 1 (w4.getD 4 undef) none (some (w4.getD 6 undef)) m5).bind fun v12 =>
retK (O (.call 13) [(w4.getD 2 undef), v12] m5 []) (fun v13 m14 =>
retK (O (.call 9) [v13] m14 []) (fun v16 m17 =>
(aApp false 2 32 (w4.getD 3 undef) v16 m17).bind fun r19 =>
(aCut 1 (w4.getD 4 undef) (some (w4.getD 6 undef)) none r19.2).bind fun v20 =>
(aBin .add (w4.getD 5 undef) (.int .i64 (1))).bind fun v21 =>
O (.loop 400) [(w4.getD 0 undef), (w4.getD 1 undef), (w4.getD 2 undef), r19.1, v20, v21] r19.2 []) (fun p18 m22 => some ⟨.panic p18, [(w4.getD 0 undef), (w4.getD 1 undef), (w4.getD 2 undef), (w4.getD 3 undef), (w4.getD 4 undef), (w4.getD 5 undef)], m22, []⟩)) (fun p15 m23 => some ⟨.panic p15, [(w4.getD 0 undef), (w4.getD 1 undef), (w4.getD 2 undef), (w4.getD 3 undef), (w4.getD 4 undef), (w4.getD 5 undef)], m23, []⟩)) (fun id7 w4 m5 =>
if id7 = 1 then
(aBin .add (w4.getD 5 undef) (.int .i64 (1))).bind fun v24 =>
O (.loop 400) [(w4.getD 0 undef), (w4.getD 1 undef), (w4.getD 2 undef), (w4.getD 3 undef), (w4.getD 4 undef), v24] m5 [] else
some ⟨.exit id7, [(w4.getD 0 undef), (w4.getD 1 undef), (w4.getD 2 undef), (w4.getD 3 undef), (w4.getD 4 undef), (w4.getD 5 undef)], m5, []⟩) (fun w4 m5 =>
some ⟨.ret, [(w4.getD 0 undef), (w4.getD 1 undef), (w4.getD 2 undef), (w4.getD 3 undef), (w4.getD 4 undef), (w4.getD 5 undef)], m5, []⟩) (fun p8 w4 m5 =>
some ⟨.panic p8, [(w4.getD 0 undef), (w4.getD 1 undef), (w4.getD 2 undef), (w4.getD 3 undef), (w4.getD 4 undef), (w4.getD 5 undef)], m5, []⟩)) (
some ⟨.exit 0, [b0, b1, b2, b3, b4, b5], m, []⟩)
theorem Q400 (gv : FuncId → Option (List Value → Mem → Option (Value × Mem))) {b0 b1 b2 b3 b4 b5 : Value} {m : Mem} {r : Out} (h : y400 (L (CC gv)) b0 b1 b2 b3 b4 b5 m = some r) : L (CC gv) (.loop 400) [b0, b1, b2, b3, b4, b5] m [] = some r := R_loop (C := CC gv) (keep := [0, 1, 5, 6, 7, 8]) (b := lb400) rfl (x := y400 (L (CC gv)) b0 b1 b2 b3 b4 b5 m) (by kernel_rfl) h
/-- noonmark/noonmarklaw01.WireFeeds -/
def x4 (O : Orc) (a0 a1 : Value) (m : Mem) : Option Out :=
retK (O (.call 12) [] m []) (fun v0 m1 =>
(aIsNil .ptr false v0).bind fun v3 =>
br v3 (
retK (O (.call 11) [] m1 []) (fun v4 m5 =>
some ⟨.ret, [v4], m5, []⟩) (fun p6 m7 => some ⟨.panic p6, [], m7, []⟩)) (
(aLenL a1).bind fun v8 =>
(aBin .gtr v8 (.int .i64 (100))).bind fun v9 =>
br v9 (
retK (O (.call 11) [] m1 []) (fun v10 m11 =>
some ⟨.ret, [v10], m11, []⟩) (fun p12 m13 => some ⟨.panic p12, [], m13, []⟩)) (
lpN (O (.loop 400) [a0, a1, v0, (.slice none 0 0), a0, (.int .i64 (0))] m1 []) (fun id17 w14 m15 =>
if id17 = 0 then
retK (O (.call 13) [(w14.getD 2 undef), (w14.getD 4 undef)] m15 []) (fun v19 m20 =>
retK (O (.call 9) [v19] m20 []) (fun v22 m23 =>
(aApp false 2 32 (w14.getD 3 undef) v22 m23).bind fun r25 =>
retK (O (.call 6) [(w14.getD 0 undef)] r25.2 []) (fun v26 m27 =>
(aExtract 0 v26).bind fun v29 =>
(aExtract 1 v26).bind fun v30 =>
retK (O (.call 9) [v29] m27 []) (fun v31 m32 =>
retK (O (.call 8) [r25.1, v31] m32 []) (fun v34 m35 =>
br v34 (
retK (O (.call 14) [(w14.getD 2 undef)] m35 []) (fun v37 m38 =>
retK (O (.call 10) [v37, v30] m38 []) (fun v40 m41 =>
br v40 (
retK (O (.call 11) [] m41 []) (fun v43 m44 =>
some ⟨.ret, [v43], m44, []⟩) (fun p45 m46 => some ⟨.panic p45, [], m46, []⟩)) (
some ⟨.ret, [(.bool false)], m41, []⟩)) (fun p42 m47 => some ⟨.panic p42, [], m47, []⟩)) (fun p39 m48 => some ⟨.panic p39, [], m48, []⟩)) (
some ⟨.ret, [(.bool false)], m35, []⟩)) (fun p36 m49 => some ⟨.panic p36, [], m49, []⟩)) (fun p33 m50 => some ⟨.panic p33, [], m50, []⟩)) (fun p28 m51 => some ⟨.panic p28, [], m51, []⟩)) (fun p24 m52 => some ⟨.panic p24, [], m52, []⟩)) (fun p21 m53 => some ⟨.panic p21, [], m53, []⟩) else
none) (fun w14 m15 =>
some ⟨.ret, [undef], m15, []⟩) (fun p18 w14 m15 =>
some ⟨.panic p18, [], m15, []⟩)))) (fun p2 m54 => some ⟨.panic p2, [], m54, []⟩)
theorem R4 (gv : FuncId → Option (List Value → Mem → Option (Value × Mem))) (hg : gv 4 = none) {a0 a1 : Value} {m : Mem} {r : Out} (h : x4 (L (CC gv)) a0 a1 m = some r) : L (CC gv) (.call 4) [a0, a1] m [] = some r := R_call (C := CC gv) (fn := ir4) hg rfl (Nat.le_of_ble_eq_true rfl) (x := x4 (L (CC gv)) a0 a1 m) (by kernel_rfl) h
/-- noonmark/noonmarklaw01.WireLeft -/
def x5 (O : Orc) (a0 : Value) (m : Mem) : Option Out :=
retK (O (.call 6) [a0] m []) (fun v0 m1 =>
(aExtract 0 v0).bind fun v3 =>
(aExtract 1 v0).bind fun v4 =>
(aLenL v4).bind fun v5 =>
(aLenL a0).bind fun v6 =>
(aBin .gtr v5 v6).bind fun v7 =>
br v7 (
some ⟨.ret, [(.bool false)], m1, []⟩) (
(aLenL a0).bind fun v8 =>
(aLenL v4).bind fun v9 =>
(aBin .sub v8 v9).bind fun v10 =>
(aCut 1 a0 (some v10) none m1).bind fun v11 =>
retK (O (.call 10) [v4, v11] m1 []) (fun v12 m13 =>
(aUn .not v12).bind fun v15 =>
br v15 (
some ⟨.ret, [(.bool false)], m13, []⟩) (
retK (O (.call 6) [v4] m13 []) (fun v16 m17 =>
(aExtract 0 v16).bind fun v19 =>
(aExtract 1 v16).bind fun v20 =>
(aLenL v19).bind fun v21 =>
(aBin .eql v21 (.int .i64 (0))).bind fun v22 =>
br v22 (
retK (O (.call 10) [v20, v4] m17 []) (fun v23 m24 =>
br v23 (
retK (O (.call 13) [(.pointer none), a0] m24 []) (fun v26 m27 =>
(aLenL v26).bind fun v29 =>
(aBin .eql v29 (.int .i64 (0))).bind fun v30 =>
br v30 (
retK (O (.call 14) [(.pointer none)] m27 []) (fun v31 m32 =>
(aLenL v31).bind fun v34 =>
(aBin .eql v34 (.int .i64 (0))).bind fun v35 =>
br v35 (
retK (O (.call 11) [] m32 []) (fun v36 m37 =>
some ⟨.ret, [v36], m37, []⟩) (fun p38 m39 => some ⟨.panic p38, [], m39, []⟩)) (
some ⟨.ret, [(.bool false)], m32, []⟩)) (fun p33 m40 => some ⟨.panic p33, [], m40, []⟩)) (
some ⟨.ret, [(.bool false)], m27, []⟩)) (fun p28 m41 => some ⟨.panic p28, [], m41, []⟩)) (
some ⟨.ret, [(.bool false)], m24, []⟩)) (fun p25 m42 => some ⟨.panic p25, [], m42, []⟩)) (
some ⟨.ret, [(.bool false)], m17, []⟩)) (fun p18 m43 => some ⟨.panic p18, [], m43, []⟩))) (fun p14 m44 => some ⟨.panic p14, [], m44, []⟩))) (fun p2 m45 => some ⟨.panic p2, [], m45, []⟩)
theorem R5 (gv : FuncId → Option (List Value → Mem → Option (Value × Mem))) (hg : gv 5 = none) {a0 : Value} {m : Mem} {r : Out} (h : x5 (L (CC gv)) a0 m = some r) : L (CC gv) (.call 5) [a0] m [] = some r := R_call (C := CC gv) (fn := ir5) hg rfl (Nat.le_of_ble_eq_true rfl) (x := x5 (L (CC gv)) a0 m) (by kernel_rfl) h
/-- noonmark/wire.Split -/
def x6 (O : Orc) (a0 : Value) (m : Mem) : Option Out :=
retK (O (.call 12) [] m []) (fun v0 m1 =>
retK (O (.call 13) [v0, a0] m1 []) (fun v3 m4 =>
retK (O (.call 14) [v0] m4 []) (fun v6 m7 =>
some ⟨.ret, [.tuple [v3, v6].toArray], m7, []⟩) (fun p8 m9 => some ⟨.panic p8, [], m9, []⟩)) (fun p5 m10 => some ⟨.panic p5, [], m10, []⟩)) (fun p2 m11 => some ⟨.panic p2, [], m11, []⟩)
theorem R6 (gv : FuncId → Option (List Value → Mem → Option (Value × Mem))) (hg : gv 6 = none) {a0 : Value} {m : Mem} {r : Out} (h : x6 (L (CC gv)) a0 m = some r) : L (CC gv) (.call 6) [a0] m [] = some r := R_call (C := CC gv) (fn := ir6) hg rfl (Nat.le_of_ble_eq_true rfl) (x := x6 (L (CC gv)) a0 m) (by kernel_rfl) h
def y700 (O : Orc) (b0 b1 b2 b3 : Value) (m : Mem) : Option Out :=
(aLenL b0).bind fun v0 =>
(aBin .gtr v0 (.int .i64 (0))).bind fun v1 =>
br v1 (
retK (O (.call 15) [b0] m []) (fun v2 m3 =>
(aExtract 0 v2).bind fun v5 =>
(aExtract 1 v2).bind fun v6 =>
(aExtract 2 v2).bind fun v7 =>
(aBin .eql v5 (.int .i64 (0))).bind fun v8 =>
br v8 (
some ⟨.ret, [b0, b3, b0, b3], m3, []⟩) (
(aBin .eql v5 (.int .i64 (1))).bind fun v9 =>
br v9 (
(aBuild [(0, 1), (1, 1)] [(.bool false), (.slice none 0 0)] [(1, v7)]).bind fun v10 =>
(aLit 2 1 [(.bool false), (.slice none 0 0)] [(0, v10)] m3).bind fun r11 =>
(aApp false 2 32 b3 r11.1 r11.2).bind fun r12 =>
(aCut 1 b0 (some v6) none r12.2).bind fun v13 =>
O (.loop 700) [v13, b1, b2, r12.1] r12.2 []) (
(aBuild [(0, 1), (1, 1)] [(.bool false), (.slice none 0 0)] [(0, (.bool true))]).bind fun v14 =>
(aLit 2 1 [(.bool false), (.slice none 0 0)] [(0, v14)] m3).bind fun r15 =>
(aApp false 2 32 b3 r15.1 r15.2).bind fun r16 =>
lpN (O (.loop 701) [b0, b1, b2, r16.1, v6] r16.2 []) (fun id20 w17 m18 =>
if id20 = 2 then
(aLenL (w17.getD 0 undef)).bind fun v22 =>
(aBin .eql (w17.getD 4 undef) v22).bind fun v23 =>
br v23 (
some ⟨.ret, [(w17.getD 0 undef), (w17.getD 3 undef), (.slice none 0 0), (w17.getD 3 undef)], m18, []⟩) (
(aBin .add (w17.getD 4 undef) (.int .i64 (1))).bind fun v24 =>
(aCut 1 (w17.getD 0 undef) (some v24) none m18).bind fun v25 =>
O (.loop 700) [v25, (w17.getD 1 undef), (w17.getD 2 undef), (w17.getD 3 undef)] m18 []) else
if id20 = 1 then
O (.loop 700) [(w17.getD 0 undef), (w17.getD 1 undef), (w17.getD 2 undef), (w17.getD 3 undef)] m18 [] else
some ⟨.exit id20, [(w17.getD 0 undef), (w17.getD 1 undef), (w17.getD 2 undef), (w17.getD 3 undef)], m18, []⟩) (fun w17 m18 =>
some ⟨.ret, [(w17.getD 0 undef), (w17.getD 1 undef), (w17.getD 2 undef), (w17.getD 3 undef)], m18, []⟩) (fun p21 w17 m18 =>
some ⟨.panic p21, [(w17.getD 0 undef), (w17.getD 1 undef), (w17.getD 2 undef), (w17.getD 3 undef)], m18, []⟩)))) (fun p4 m26 => some ⟨.panic p4, [b0, b1, b2, b3], m26, []⟩)) (
some ⟨.exit 0, [b0, b1, b2, b3], m, []⟩)
theorem Q700 (gv : FuncId → Option (List Value → Mem → Option (Value × Mem))) {b0 b1 b2 b3 : Value} {m : Mem} {r : Out} (h : y700 (L (CC gv)) b0 b1 b2 b3 m = some r) : L (CC gv) (.loop 700) [b0, b1, b2, b3] m [] = some r := R_loop (C := CC gv) (keep := [0, 2, 3, 4]) (b := lb700) rfl (x := y700 (L (CC gv)) b0 b1 b2 b3 m) (by kernel_rfl) h
def y701 (O : Orc) (b0 b1 b2 b3 b4 : Value) (m : Mem) : Option Out :=
(aLenL b0).bind fun v0 =>
(aBin .lss b4 v0).bind fun v1 =>
br v1 (
(aIdx 1 b0 b4).bind fun v2 =>
(aLd 1 false v2 m).bind fun v3 =>
(aBin .neq v3 (.int .u8 (10))).bind fun v4 =>
br v4 (
(aBin .add b4 (.int .i64 (1))).bind fun v5 =>
O (.loop 701) [b0, b1, b2, b3, v5] m []) (
some ⟨.exit 2, [b0, b1, b2, b3, b4], m, []⟩)) (
some ⟨.exit 2, [b0, b1, b2, b3, b4], m, []⟩)
theorem Q701 (gv : FuncId → Option (List Value → Mem → Option (Value × Mem))) {b0 b1 b2 b3 b4 : Value} {m : Mem} {r : Out} (h : y701 (L (CC gv)) b0 b1 b2 b3 b4 m = some r) : L (CC gv) (.loop 701) [b0, b1, b2, b3, b4] m [] = some r := R_loop (C := CC gv) (keep := [0, 2, 3, 4, 6]) (b := lb701) rfl (x := y701 (L (CC gv)) b0 b1 b2 b3 b4 m) (by kernel_rfl) h
/-- noonmark/noonmarkref01.Split -/
def x7 (O : Orc) (a0 : Value) (m : Mem) : Option Out :=
lpN (O (.loop 700) [a0, (.slice none 0 0), (.slice none 0 0), (.slice none 0 0)] m []) (fun id3 w0 m1 =>
if id3 = 0 then
some ⟨.ret, [.tuple [(w0.getD 3 undef), (.slice none 0 0)].toArray], m1, []⟩ else
none) (fun w0 m1 =>
some ⟨.ret, [.tuple [(w0.getD 1 undef), (w0.getD 2 undef)].toArray], m1, []⟩) (fun p4 w0 m1 =>
some ⟨.panic p4, [], m1, []⟩)
theorem R7 (gv : FuncId → Option (List Value → Mem → Option (Value × Mem))) (hg : gv 7 = none) {a0 : Value} {m : Mem} {r : Out} (h : x7 (L (CC gv)) a0 m = some r) : L (CC gv) (.call 7) [a0] m [] = some r := R_call (C := CC gv) (fn := ir7) hg rfl (Nat.le_of_ble_eq_true rfl) (x := x7 (L (CC gv)) a0 m) (by kernel_rfl) h
def y800 (O : Orc) (b0 b1 b2 b3 : Value) (m : Mem) : Option Out :=
(aLenL b0).bind fun v0 =>
(aBin .lss b3 v0).bind fun v1 =>
br v1 (
(aIdx 2 b0 b3).bind fun v2 =>
(aFieldAddr 0 v2).bind fun v3 =>
(aLd 1 false v3 m).bind fun v4 =>
(aIdx 2 b1 b3).bind fun v5 =>
(aFieldAddr 0 v5).bind fun v6 =>
(aLd 1 false v6 m).bind fun v7 =>
(aEqB true v4 v7).bind fun v8 =>
br v8 (
some ⟨.ret, [b0, b1, (.bool false), b3], m, []⟩) (
(aIdx 2 b0 b3).bind fun v9 =>
(aFieldAddr 1 v9).bind fun v10 =>
(aLd 1 false v10 m).bind fun v11 =>
(aIdx 2 b1 b3).bind fun v12 =>
(aFieldAddr 1 v12).bind fun v13 =>
(aLd 1 false v13 m).bind fun v14 =>
retK (O (.call 10) [v11, v14] m []) (fun v15 m16 =>
(aUn .not v15).bind fun v18 =>
br v18 (
some ⟨.ret, [b0, b1, (.bool false), b3], m16, []⟩) (
(aBin .add b3 (.int .i64 (1))).bind fun v19 =>
O (.loop 800) [b0, b1, b2, v19] m16 [])) (fun p17 m20 => none))) (
some ⟨.exit 0, [b0, b1, b2, b3], m, []⟩)
theorem Q800 (gv : FuncId → Option (List Value → Mem → Option (Value × Mem))) {b0 b1 b2 b3 : Value} {m : Mem} {r : Out} (h : y800 (L (CC gv)) b0 b1 b2 b3 m = some r) : L (CC gv) (.loop 800) [b0, b1, b2, b3] m [] = some r := R_loop (C := CC gv) (keep := [0, 1, 4, 5]) (b := lb800) rfl (x := y800 (L (CC gv)) b0 b1 b2 b3 m) (by kernel_rfl) h
/-- noonmark/noonmarkref01.Items -/
def x8 (O : Orc) (a0 a1 : Value) (m : Mem) : Option Out :=
(aLenL a0).bind fun v0 =>
(aLenL a1).bind fun v1 =>
(aBin .neq v0 v1).bind fun v2 =>
br v2 (
some ⟨.ret, [(.bool false)], m, []⟩) (
lpN (O (.loop 800) [a0, a1, (.bool false), (.int .i64 (0))] m []) (fun id6 w3 m4 =>
if id6 = 0 then
some ⟨.ret, [(.bool true)], m4, []⟩ else
none) (fun w3 m4 =>
some ⟨.ret, [(w3.getD 2 undef)], m4, []⟩) (fun p7 w3 m4 =>
some ⟨.panic p7, [], m4, []⟩))
theorem R8 (gv : FuncId → Option (List Value → Mem → Option (Value × Mem))) (hg : gv 8 = none) {a0 a1 : Value} {m : Mem} {r : Out} (h : x8 (L (CC gv)) a0 a1 m = some r) : L (CC gv) (.call 8) [a0, a1] m [] = some r := R_call (C := CC gv) (fn := ir8) hg rfl (Nat.le_of_ble_eq_true rfl) (x := x8 (L (CC gv)) a0 a1 m) (by kernel_rfl) h
def y900 (O : Orc) (b0 b1 b2 : Value) (m : Mem) : Option Out :=
(aLenL b0).bind fun v0 =>
(aBin .lss b2 v0).bind fun v1 =>
br v1 (
(aIdx 2 b0 b2).bind fun v2 =>
(aFieldAddr 0 v2).bind fun v3 =>
(aLd 1 false v3 m).bind fun v4 =>
(aIdx 2 b0 b2).bind fun v5 =>
(aFieldAddr 1 v5).bind fun v6 =>
(aLd 1 false v6 m).bind fun v7 =>
(aBuild [(0, 1), (1, 1)] [(.bool false), (.slice none 0 0)] [(0, v4), (1, v7)]).bind fun v8 =>
(aLit 2 1 [(.bool false), (.slice none 0 0)] [(0, v8)] m).bind fun r9 =>
(aApp false 2 32 b1 r9.1 r9.2).bind fun r10 =>
(aBin .add b2 (.int .i64 (1))).bind fun v11 =>
O (.loop 900) [b0, r10.1, v11] r10.2 []) (
some ⟨.exit 0, [b0, b1, b2], m, []⟩)
theorem Q900 (gv : FuncId → Option (List Value → Mem → Option (Value × Mem))) {b0 b1 b2 : Value} {m : Mem} {r : Out} (h : y900 (L (CC gv)) b0 b1 b2 m = some r) : L (CC gv) (.loop 900) [b0, b1, b2] m [] = some r := R_loop (C := CC gv) (keep := [0, 3, 4]) (b := lb900) rfl (x := y900 (L (CC gv)) b0 b1 b2 m) (by kernel_rfl) h
/-- noonmark/noonmarklaw01.Back -/
def x9 (O : Orc) (a0 : Value) (m : Mem) : Option Out :=
lpN (O (.loop 900) [a0, (.slice none 0 0), (.int .i64 (0))] m []) (fun id3 w0 m1 =>
if id3 = 0 then
some ⟨.ret, [(w0.getD 1 undef)], m1, []⟩ else
none) (fun w0 m1 =>
some ⟨.ret, [undef], m1, []⟩) (fun p4 w0 m1 =>
some ⟨.panic p4, [], m1, []⟩)
theorem R9 (gv : FuncId → Option (List Value → Mem → Option (Value × Mem))) (hg : gv 9 = none) {a0 : Value} {m : Mem} {r : Out} (h : x9 (L (CC gv)) a0 m = some r) : L (CC gv) (.call 9) [a0] m [] = some r := R_call (C := CC gv) (fn := ir9) hg rfl (Nat.le_of_ble_eq_true rfl) (x := x9 (L (CC gv)) a0 m) (by kernel_rfl) h
def y1000 (O : Orc) (b0 b1 b2 b3 : Value) (m : Mem) : Option Out :=
(aLenL b0).bind fun v0 =>
(aBin .lss b3 v0).bind fun v1 =>
br v1 (
(aIdx 1 b0 b3).bind fun v2 =>
(aLd 1 false v2 m).bind fun v3 =>
(aIdx 1 b1 b3).bind fun v4 =>
(aLd 1 false v4 m).bind fun v5 =>
(aBin .neq v3 v5).bind fun v6 =>
br v6 (
some ⟨.ret, [b0, b1, (.bool false), b3], m, []⟩) (
(aBin .add b3 (.int .i64 (1))).bind fun v7 =>
O (.loop 1000) [b0, b1, b2, v7] m [])) (
some ⟨.exit 0, [b0, b1, b2, b3], m, []⟩)
theorem Q1000 (gv : FuncId → Option (List Value → Mem → Option (Value × Mem))) {b0 b1 b2 b3 : Value} {m : Mem} {r : Out} (h : y1000 (L (CC gv)) b0 b1 b2 b3 m = some r) : L (CC gv) (.loop 1000) [b0, b1, b2, b3] m [] = some r := R_loop (C := CC gv) (keep := [0, 1, 4, 5]) (b := lb1000) rfl (x := y1000 (L (CC gv)) b0 b1 b2 b3 m) (by kernel_rfl) h
/-- noonmark/noonmarkref01.Same -/
def x10 (O : Orc) (a0 a1 : Value) (m : Mem) : Option Out :=
(aLenL a0).bind fun v0 =>
(aLenL a1).bind fun v1 =>
(aBin .neq v0 v1).bind fun v2 =>
br v2 (
some ⟨.ret, [(.bool false)], m, []⟩) (
lpN (O (.loop 1000) [a0, a1, (.bool false), (.int .i64 (0))] m []) (fun id6 w3 m4 =>
if id6 = 0 then
some ⟨.ret, [(.bool true)], m4, []⟩ else
none) (fun w3 m4 =>
some ⟨.ret, [(w3.getD 2 undef)], m4, []⟩) (fun p7 w3 m4 =>
some ⟨.panic p7, [], m4, []⟩))
theorem R10 (gv : FuncId → Option (List Value → Mem → Option (Value × Mem))) (hg : gv 10 = none) {a0 a1 : Value} {m : Mem} {r : Out} (h : x10 (L (CC gv)) a0 a1 m = some r) : L (CC gv) (.call 10) [a0, a1] m [] = some r := R_call (C := CC gv) (fn := ir10) hg rfl (Nat.le_of_ble_eq_true rfl) (x := x10 (L (CC gv)) a0 a1 m) (by kernel_rfl) h
/-- noonmark/noonmarklaw01.alive -/
def x11 (O : Orc) (m : Mem) : Option Out :=
(aLit 1 8 [(.int .u8 (0))] [(0, (.int .u8 (53))), (1, (.int .u8 (58))), (2, (.int .u8 (104))), (3, (.int .u8 (101))), (4, (.int .u8 (108))), (5, (.int .u8 (108))), (6, (.int .u8 (111))), (7, (.int .u8 (10)))] m).bind fun r0 =>
(aMark r0.1 r0.2).bind fun v1 =>
retK (O (.call 6) [v1] r0.2 []) (fun v2 m3 =>
(aExtract 0 v2).bind fun v5 =>
(aExtract 1 v2).bind fun v6 =>
(aLit 1 5 [(.int .u8 (0))] [(0, (.int .u8 (120))), (1, (.int .u8 (10))), (2, (.int .u8 (48))), (3, (.int .u8 (58))), (4, (.int .u8 (10)))] m3).bind fun r7 =>
(aMark r7.1 r7.2).bind fun v8 =>
retK (O (.call 6) [v8] r7.2 []) (fun v9 m10 =>
(aExtract 0 v9).bind fun v12 =>
(aExtract 1 v9).bind fun v13 =>
(aLenL v5).bind fun v14 =>
(aBin .eql v14 (.int .i64 (1))).bind fun v15 =>
br v15 (
(aIdx 2 v5 (.int .i64 (0))).bind fun v16 =>
(aFieldAddr 1 v16).bind fun v17 =>
(aLd 1 false v17 m10).bind fun v18 =>
(aStr v18 m10).bind fun v19 =>
(aBin .eql v19 (.string ⟨#[104, 101, 108, 108, 111]⟩)).bind fun v20 =>
br v20 (
(aLenL v6).bind fun v21 =>
(aBin .eql v21 (.int .i64 (0))).bind fun v22 =>
br v22 (
(aLenL v12).bind fun v23 =>
(aBin .eql v23 (.int .i64 (2))).bind fun v24 =>
br v24 (
(aIdx 2 v12 (.int .i64 (0))).bind fun v25 =>
(aFieldAddr 0 v25).bind fun v26 =>
(aLd 1 false v26 m10).bind fun v27 =>
br v27 (
(aIdx 2 v12 (.int .i64 (1))).bind fun v28 =>
(aFieldAddr 0 v28).bind fun v29 =>
(aLd 1 false v29 m10).bind fun v30 =>
(aUn .not v30).bind fun v31 =>
br v31 (
(aLenL v13).bind fun v32 =>
(aBin .eql v32 (.int .i64 (0))).bind fun v33 =>
some ⟨.ret, [v33], m10, []⟩) (
some ⟨.ret, [(.bool false)], m10, []⟩)) (
some ⟨.ret, [(.bool false)], m10, []⟩)) (
some ⟨.ret, [(.bool false)], m10, []⟩)) (
some ⟨.ret, [(.bool false)], m10, []⟩)) (
some ⟨.ret, [(.bool false)], m10, []⟩)) (
some ⟨.ret, [(.bool false)], m10, []⟩)) (fun p11 m34 => some ⟨.panic p11, [], m34, []⟩)) (fun p4 m35 => some ⟨.panic p4, [], m35, []⟩)
theorem R11 (gv : FuncId → Option (List Value → Mem → Option (Value × Mem))) (hg : gv 11 = none) {m : Mem} {r : Out} (h : x11 (L (CC gv))  m = some r) : L (CC gv) (.call 11) [] m [] = some r := R_call (C := CC gv) (fn := ir11) hg rfl (Nat.le_of_ble_eq_true rfl) (x := x11 (L (CC gv))  m) (by kernel_rfl) h
/-- noonmark/wire.New -/
def x12 (O : Orc) (m : Mem) : Option Out :=
(aBuild [(0, 1), (1, 1), (2, 1), (3, 1), (4, 1)] [(.int .i64 (0)), (.slice none 0 0), (.int .i64 (0)), (.int .i64 (0)), (.slice none 0 0)] []).bind fun v0 =>
if known v0 = true then letK ((m).push ⟨0, (Value.cells v0).toList⟩) fun m1 =>
some ⟨.ret, [(.pointer (some ⟨(m).next, 0, none⟩))], m1, []⟩ else none
theorem R12 (gv : FuncId → Option (List Value → Mem → Option (Value × Mem))) (hg : gv 12 = none) {m : Mem} {r : Out} (h : x12 (L (CC gv))  m = some r) : L (CC gv) (.call 12) [] m [] = some r := R_call (C := CC gv) (fn := ir12) hg rfl (Nat.le_of_ble_eq_true rfl) (x := x12 (L (CC gv))  m) (by kernel_rfl) h
def y1300 (O : Orc) (b0 b1 b2 b3 : Value) (m : Mem) : Option Out :=
(aBin .lss b3 b2).bind fun v0 =>
br v0 (
(aIdx 1 b1 b3).bind fun v1 =>
(aLd 1 false v1 m).bind fun v2 =>
retK (O (.call 16) [b0] m []) (fun v3 m4 =>
(fn? v3).bind fun c6 => retK (O (.call c6.1) (c6.2.1 ++ [v2] ++ c6.2.2) m4 []) (fun v7 m8 =>
(aBin .add b3 (.int .i64 (1))).bind fun v10 =>
O (.loop 1300) [b0, b1, b2, v10] m8 []) (fun p9 m11 => some ⟨.panic p9, [b0, b1, b2, b3], m11, []⟩)) (fun p5 m12 => some ⟨.panic p5, [b0, b1, b2, b3], m12, []⟩)) (
some ⟨.exit 0, [b0, b1, b2, b3], m, []⟩)
theorem Q1300 (gv : FuncId → Option (List Value → Mem → Option (Value × Mem))) {b0 b1 b2 b3 : Value} {m : Mem} {r : Out} (h : y1300 (L (CC gv)) b0 b1 b2 b3 m = some r) : L (CC gv) (.loop 1300) [b0, b1, b2, b3] m [] = some r := R_loop (C := CC gv) (keep := [0, 10, 11, 12]) (b := lb1300) rfl (x := y1300 (L (CC gv)) b0 b1 b2 b3 m) (by kernel_rfl) h
/-- (*noonmark/wire.Splitter).Feed -/
def x13 (O : Orc) (a0 a1 : Value) (m : Mem) : Option Out :=
(aIsNil .ptr false a0).bind fun v0 =>
br v0 (
some ⟨.ret, [(.slice none 0 0)], m, []⟩) (
(aLenL a1).bind fun v1 =>
lpN (O (.loop 1300) [a0, a1, v1, (.int .i64 (0))] m []) (fun id5 w2 m3 =>
if id5 = 0 then
(aCheck (w2.getD 0 undef)).bind fun v7 =>
(aFieldAddr 4 v7).bind fun v8 =>
(aLd 1 false v8 m3).bind fun v9 =>
(aCheck (w2.getD 0 undef)).bind fun v10 =>
(aFieldAddr 4 v10).bind fun v11 =>
(aSt 1 v11 (.slice none 0 0) m3).bind fun m12 =>
some ⟨.ret, [v9], m12, []⟩ else
none) (fun w2 m3 =>
some ⟨.ret, [undef], m3, []⟩) (fun p6 w2 m3 =>
some ⟨.panic p6, [], m3, []⟩))
theorem R13 (gv : FuncId → Option (List Value → Mem → Option (Value × Mem))) (hg : gv 13 = none) {a0 a1 : Value} {m : Mem} {r : Out} (h : x13 (L (CC gv)) a0 a1 m = some r) : L (CC gv) (.call 13) [a0, a1] m [] = some r := R_call (C := CC gv) (fn := ir13) hg rfl (Nat.le_of_ble_eq_true rfl) (x := x13 (L (CC gv)) a0 a1 m) (by kernel_rfl) h
/-- (*noonmark/wire.Splitter).Rest -/
def x14 (O : Orc) (a0 : Value) (m : Mem) : Option Out :=
(aIsNil .ptr false a0).bind fun v0 =>
br v0 (
some ⟨.ret, [(.slice none 0 0)], m, []⟩) (
(aCheck a0).bind fun v1 =>
(aFieldAddr 1 v1).bind fun v2 =>
(aLd 1 false v2 m).bind fun v3 =>
retK (O (.call 17) [v3] m []) (fun v4 m5 =>
some ⟨.ret, [v4], m5, []⟩) (fun p6 m7 => some ⟨.panic p6, [], m7, []⟩))
theorem R14 (gv : FuncId → Option (List Value → Mem → Option (Value × Mem))) (hg : gv 14 = none) {a0 : Value} {m : Mem} {r : Out} (h : x14 (L (CC gv)) a0 m = some r) : L (CC gv) (.call 14) [a0] m [] = some r := R_call (C := CC gv) (fn := ir14) hg rfl (Nat.le_of_ble_eq_true rfl) (x := x14 (L (CC gv)) a0 m) (by kernel_rfl) h
def y1500 (O : Orc) (b0 b1 b2 b3 b4 b5 : Value) (m : Mem) : Option Out :=
(aLenL b0).bind fun v0 =>
(aBin .lss b5 v0).bind fun v1 =>
br v1 (
(aIdx 1 b0 b5).bind fun v2 =>
(aLd 1 false v2 m).bind fun v3 =>
(aBin .geq v3 (.int .u8 (48))).bind fun v4 =>
br v4 (
(aIdx 1 b0 b5).bind fun v5 =>
(aLd 1 false v5 m).bind fun v6 =>
(aBin .leq v6 (.int .u8 (57))).bind fun v7 =>
br v7 (
(aBin .eql b5 (.int .i64 (5))).bind fun v8 =>
br v8 (
some ⟨.ret, [b0, (.int .i64 (2)), b5, (.slice none 0 0), b4, b5], m, []⟩) (
(aBin .gtr b5 (.int .i64 (0))).bind fun v9 =>
br v9 (
(aBin .eql b4 (.int .i64 (0))).bind fun v10 =>
br v10 (
some ⟨.ret, [b0, (.int .i64 (2)), b5, (.slice none 0 0), b4, b5], m, []⟩) (
(aBin .mul b4 (.int .i64 (10))).bind fun v11 =>
(aIdx 1 b0 b5).bind fun v12 =>
(aLd 1 false v12 m).bind fun v13 =>
(aBin .sub v13 (.int .u8 (48))).bind fun v14 =>
(aInt .i64 v14).bind fun v15 =>
(aBin .add v11 v15).bind fun v16 =>
(aBin .add b5 (.int .i64 (1))).bind fun v17 =>
O (.loop 1500) [b0, b1, b2, b3, v16, v17] m [])) (
(aBin .mul b4 (.int .i64 (10))).bind fun v18 =>
(aIdx 1 b0 b5).bind fun v19 =>
(aLd 1 false v19 m).bind fun v20 =>
(aBin .sub v20 (.int .u8 (48))).bind fun v21 =>
(aInt .i64 v21).bind fun v22 =>
(aBin .add v18 v22).bind fun v23 =>
(aBin .add b5 (.int .i64 (1))).bind fun v24 =>
O (.loop 1500) [b0, b1, b2, b3, v23, v24] m []))) (
some ⟨.exit 0, [b0, b1, b2, b3, b4, b5], m, []⟩)) (
some ⟨.exit 0, [b0, b1, b2, b3, b4, b5], m, []⟩)) (
some ⟨.exit 0, [b0, b1, b2, b3, b4, b5], m, []⟩)
theorem Q1500 (gv : FuncId → Option (List Value → Mem → Option (Value × Mem))) {b0 b1 b2 b3 b4 b5 : Value} {m : Mem} {r : Out} (h : y1500 (L (CC gv)) b0 b1 b2 b3 b4 b5 m = some r) : L (CC gv) (.loop 1500) [b0, b1, b2, b3, b4, b5] m [] = some r := R_loop (C := CC gv) (keep := [0, 2, 3, 4, 5, 6]) (b := lb1500) rfl (x := y1500 (L (CC gv)) b0 b1 b2 b3 b4 b5 m) (by kernel_rfl) h
/-- noonmark/noonmarkref01.first -/
def x15 (O : Orc) (a0 : Value) (m : Mem) : Option Out :=
lpN (O (.loop 1500) [a0, (.int .i64 (0)), (.int .i64 (0)), (.slice none 0 0), (.int .i64 (0)), (.int .i64 (0))] m []) (fun id3 w0 m1 =>
if id3 = 0 then
(aLenL (w0.getD 0 undef)).bind fun v5 =>
(aBin .eql (w0.getD 5 undef) v5).bind fun v6 =>
br v6 (
some ⟨.ret, [.tuple [(.int .i64 (0)), (.int .i64 (0)), (.slice none 0 0)].toArray], m1, []⟩) (
(aBin .eql (w0.getD 5 undef) (.int .i64 (0))).bind fun v7 =>
br v7 (
some ⟨.ret, [.tuple [(.int .i64 (2)), (w0.getD 5 undef), (.slice none 0 0)].toArray], m1, []⟩) (
(aIdx 1 (w0.getD 0 undef) (w0.getD 5 undef)).bind fun v8 =>
(aLd 1 false v8 m1).bind fun v9 =>
(aBin .neq v9 (.int .u8 (58))).bind fun v10 =>
br v10 (
some ⟨.ret, [.tuple [(.int .i64 (2)), (w0.getD 5 undef), (.slice none 0 0)].toArray], m1, []⟩) (
(aBin .gtr (w0.getD 4 undef) (.int .i64 (20000))).bind fun v11 =>
br v11 (
some ⟨.ret, [.tuple [(.int .i64 (2)), (w0.getD 5 undef), (.slice none 0 0)].toArray], m1, []⟩) (
(aBin .add (w0.getD 5 undef) (.int .i64 (1))).bind fun v12 =>
(aLenL (w0.getD 0 undef)).bind fun v13 =>
(aBin .sub v13 v12).bind fun v14 =>
(aBin .leq v14 (w0.getD 4 undef)).bind fun v15 =>
br v15 (
some ⟨.ret, [.tuple [(.int .i64 (0)), (.int .i64 (0)), (.slice none 0 0)].toArray], m1, []⟩) (
(aBin .add v12 (w0.getD 4 undef)).bind fun v16 =>
(aIdx 1 (w0.getD 0 undef) v16).bind fun v17 =>
(aLd 1 false v17 m1).bind fun v18 =>
(aBin .neq v18 (.int .u8 (10))).bind fun v19 =>
br v19 (
(aBin .add v12 (w0.getD 4 undef)).bind fun v20 =>
some ⟨.ret, [.tuple [(.int .i64 (2)), v20, (.slice none 0 0)].toArray], m1, []⟩) (
(aBin .add v12 (w0.getD 4 undef)).bind fun v21 =>
(aBin .add v21 (.int .i64 (1))).bind fun v22 =>
(aBin .add v12 (w0.getD 4 undef)).bind fun v23 =>
(aCut 1 (w0.getD 0 undef) (some v12) (some v23) m1).bind fun v24 =>
some ⟨.ret, [.tuple [(.int .i64 (1)), v22, v24].toArray], m1, []⟩)))))) else
none) (fun w0 m1 =>
some ⟨.ret, [.tuple [(w0.getD 1 undef), (w0.getD 2 undef), (w0.getD 3 undef)].toArray], m1, []⟩) (fun p4 w0 m1 =>
some ⟨.panic p4, [], m1, []⟩)
theorem R15 (gv : FuncId → Option (List Value → Mem → Option (Value × Mem))) (hg : gv 15 = none) {a0 : Value} {m : Mem} {r : Out} (h : x15 (L (CC gv)) a0 m = some r) : L (CC gv) (.call 15) [a0] m [] = some r := R_call (C := CC gv) (fn := ir15) hg rfl (Nat.le_of_ble_eq_true rfl) (x := x15 (L (CC gv)) a0 m) (by kernel_rfl) h
/-- (*noonmark/wire.Splitter).take -/
def x16 (O : Orc) (a0 : Value) (m : Mem) : Option Out :=
(aCheck a0).bind fun v0 =>
(aFieldAddr 0 v0).bind fun v1 =>
(aLd 1 false v1 m).bind fun v2 =>
(aBin .eql v2 (.int .i64 (1))).bind fun v3 =>
br v3 (
letK (.func (.func 18) [a0].toArray [].toArray : Value) fun v4 =>
some ⟨.ret, [v4], m, []⟩) (
(aBin .eql v2 (.int .i64 (2))).bind fun v5 =>
br v5 (
letK (.func (.func 19) [a0].toArray [].toArray : Value) fun v6 =>
some ⟨.ret, [v6], m, []⟩) (
letK (.func (.func 20) [a0].toArray [].toArray : Value) fun v7 =>
some ⟨.ret, [v7], m, []⟩))
theorem R16 (gv : FuncId → Option (List Value → Mem → Option (Value × Mem))) (hg : gv 16 = none) {a0 : Value} {m : Mem} {r : Out} (h : x16 (L (CC gv)) a0 m = some r) : L (CC gv) (.call 16) [a0] m [] = some r := R_call (C := CC gv) (fn := ir16) hg rfl (Nat.le_of_ble_eq_true rfl) (x := x16 (L (CC gv)) a0 m) (by kernel_rfl) h
/-- slices.Clone[[]byte,byte] -/
def x17 (O : Orc) (a0 : Value) (m : Mem) : Option Out :=
(aIsNil .slc false a0).bind fun v0 =>
br v0 (
some ⟨.ret, [(.slice none 0 0)], m, []⟩) (
(aLit 1 0 [(.int .u8 (0))] [] m).bind fun r1 =>
(aApp false 1 1 r1.1 a0 r1.2).bind fun r2 =>
some ⟨.ret, [r2.1], r2.2, []⟩)
theorem R17 (gv : FuncId → Option (List Value → Mem → Option (Value × Mem))) (hg : gv 17 = none) {a0 : Value} {m : Mem} {r : Out} (h : x17 (L (CC gv)) a0 m = some r) : L (CC gv) (.call 17) [a0] m [] = some r := R_call (C := CC gv) (fn := ir17) hg rfl (Nat.le_of_ble_eq_true rfl) (x := x17 (L (CC gv)) a0 m) (by kernel_rfl) h
/-- (*noonmark/wire.Splitter).byte -/
def x18 (O : Orc) (a0 a1 : Value) (m : Mem) : Option Out :=
(aCheck a0).bind fun v0 =>
(aFieldAddr 3 v0).bind fun v1 =>
(aLd 1 false v1 m).bind fun v2 =>
(aBin .gtr v2 (.int .i64 (0))).bind fun v3 =>
br v3 (
(aCheck a0).bind fun v4 =>
(aFieldAddr 3 v4).bind fun v5 =>
(aLd 1 false v5 m).bind fun v6 =>
(aBin .sub v6 (.int .i64 (1))).bind fun v7 =>
(aCheck a0).bind fun v8 =>
(aFieldAddr 3 v8).bind fun v9 =>
(aSt 1 v9 v7 m).bind fun m10 =>
(aCheck a0).bind fun v11 =>
(aFieldAddr 1 v11).bind fun v12 =>
(aLd 1 false v12 m10).bind fun v13 =>
(aLit 1 1 [(.int .u8 (0))] [(0, a1)] m10).bind fun r14 =>
(aApp false 1 1 v13 r14.1 r14.2).bind fun r15 =>
(aCheck a0).bind fun v16 =>
(aFieldAddr 1 v16).bind fun v17 =>
(aSt 1 v17 r15.1 r15.2).bind fun m18 =>
some ⟨.ret, [.tuple [].toArray], m18, []⟩) (
(aBin .neq a1 (.int .u8 (10))).bind fun v19 =>
br v19 (
retK (O (.call 21) [a0, a1] m []) (fun v20 m21 =>
some ⟨.ret, [.tuple [].toArray], m21, []⟩) (fun p22 m23 => some ⟨.panic p22, [], m23, []⟩)) (
(aCheck a0).bind fun v24 =>
(aFieldAddr 4 v24).bind fun v25 =>
(aLd 1 false v25 m).bind fun v26 =>
(aCheck a0).bind fun v27 =>
(aFieldAddr 1 v27).bind fun v28 =>
(aLd 1 false v28 m).bind fun v29 =>
(aCheck a0).bind fun v30 =>
(aFieldAddr 1 v30).bind fun v31 =>
(aLd 1 false v31 m).bind fun v32 =>
(aLenL v32).bind fun v33 =>
(aCheck a0).bind fun v34 =>
(aFieldAddr 2 v34).bind fun v35 =>
(aLd 1 false v35 m).bind fun v36 =>
(aBin .sub v33 v36).bind fun v37 =>
(aCut 1 v29 (some v37) none m).bind fun v38 =>
retK (O (.call 17) [v38] ((m).floor (m).next) []) (fun v39 m40 =>
(aBuild [(0, 1), (1, 1)] [(.bool false), (.slice none 0 0)] [(1, v39)]).bind fun v42 =>
(aLit 2 1 [(.bool false), (.slice none 0 0)] [(0, v42)] (m40.floor (m).lo)).bind fun r43 =>
(aApp false 2 32 v26 r43.1 r43.2).bind fun r44 =>
(aCheck a0).bind fun v45 =>
(aFieldAddr 4 v45).bind fun v46 =>
(aSt 1 v46 r44.1 r44.2).bind fun m47 =>
retK (O (.call 22) [a0] m47 []) (fun v48 m49 =>
some ⟨.ret, [.tuple [].toArray], m49, []⟩) (fun p50 m51 => some ⟨.panic p50, [], m51, []⟩)) (fun p41 m52 => none)))
theorem R18 (gv : FuncId → Option (List Value → Mem → Option (Value × Mem))) (hg : gv 18 = none) {a0 a1 : Value} {m : Mem} {r : Out} (h : x18 (L (CC gv)) a0 a1 m = some r) : L (CC gv) (.call 18) [a0, a1] m [] = some r := R_call (C := CC gv) (fn := ir18) hg rfl (Nat.le_of_ble_eq_true rfl) (x := x18 (L (CC gv)) a0 a1 m) (by kernel_rfl) h
/-- (*noonmark/wire.Splitter).pass -/
def x19 (O : Orc) (a0 a1 : Value) (m : Mem) : Option Out :=
(aBin .eql a1 (.int .u8 (10))).bind fun v0 =>
br v0 (
retK (O (.call 22) [a0] m []) (fun v1 m2 =>
some ⟨.ret, [.tuple [].toArray], m2, []⟩) (fun p3 m4 => some ⟨.panic p3, [], m4, []⟩)) (
some ⟨.ret, [.tuple [].toArray], m, []⟩)
theorem R19 (gv : FuncId → Option (List Value → Mem → Option (Value × Mem))) (hg : gv 19 = none) {a0 a1 : Value} {m : Mem} {r : Out} (h : x19 (L (CC gv)) a0 a1 m = some r) : L (CC gv) (.call 19) [a0, a1] m [] = some r := R_call (C := CC gv) (fn := ir19) hg rfl (Nat.le_of_ble_eq_true rfl) (x := x19 (L (CC gv)) a0 a1 m) (by kernel_rfl) h
/-- (*noonmark/wire.Splitter).digit -/
def x20 (O : Orc) (a0 a1 : Value) (m : Mem) : Option Out :=
(aCheck a0).bind fun v0 =>
(aFieldAddr 1 v0).bind fun v1 =>
(aLd 1 false v1 m).bind fun v2 =>
(aLenL v2).bind fun v3 =>
cutN (
(aBin .leq (.int .u8 (48)) a1).bind fun v9 =>
br v9 (
(aBin .leq a1 (.int .u8 (57))).bind fun v10 =>
br v10 (
(aBin .eql v3 (.int .i64 (5))).bind fun v11 =>
br v11 (
retK (O (.call 21) [a0, a1] m []) (fun v12 m13 =>
some ⟨.ret, [a0, a1], m13, []⟩) (fun p14 m15 => some ⟨.panic p14, [a0, a1], m15, []⟩)) (
(aBin .gtr v3 (.int .i64 (0))).bind fun v16 =>
br v16 (
(aCheck a0).bind fun v17 =>
(aFieldAddr 2 v17).bind fun v18 =>
(aLd 1 false v18 m).bind fun v19 =>
(aBin .eql v19 (.int .i64 (0))).bind fun v20 =>
br v20 (
retK (O (.call 21) [a0, a1] m []) (fun v21 m22 =>
some ⟨.ret, [a0, a1], m22, []⟩) (fun p23 m24 => some ⟨.panic p23, [a0, a1], m24, []⟩)) (
(aCheck a0).bind fun v25 =>
(aFieldAddr 2 v25).bind fun v26 =>
(aLd 1 false v26 m).bind fun v27 =>
(aBin .mul v27 (.int .i64 (10))).bind fun v28 =>
(aBin .sub a1 (.int .u8 (48))).bind fun v29 =>
(aInt .i64 v29).bind fun v30 =>
(aBin .add v28 v30).bind fun v31 =>
(aCheck a0).bind fun v32 =>
(aFieldAddr 2 v32).bind fun v33 =>
(aSt 1 v33 v31 m).bind fun m34 =>
some ⟨.normal, [a0, a1], m34, []⟩)) (
(aCheck a0).bind fun v35 =>
(aFieldAddr 2 v35).bind fun v36 =>
(aLd 1 false v36 m).bind fun v37 =>
(aBin .mul v37 (.int .i64 (10))).bind fun v38 =>
(aBin .sub a1 (.int .u8 (48))).bind fun v39 =>
(aInt .i64 v39).bind fun v40 =>
(aBin .add v38 v40).bind fun v41 =>
(aCheck a0).bind fun v42 =>
(aFieldAddr 2 v42).bind fun v43 =>
(aSt 1 v43 v41 m).bind fun m44 =>
some ⟨.normal, [a0, a1], m44, []⟩))) (
cutN (
(aBin .neq a1 (.int .u8 (58))).bind fun v50 =>
br v50 (
some ⟨.normal, [a0, a1, v50], m, []⟩) (
(aBin .eql v3 (.int .i64 (0))).bind fun v51 =>
br v51 (
some ⟨.normal, [a0, a1, v51], m, []⟩) (
(aCheck a0).bind fun v52 =>
(aFieldAddr 2 v52).bind fun v53 =>
(aLd 1 false v53 m).bind fun v54 =>
(aBin .gtr v54 (.int .i64 (20000))).bind fun v55 =>
some ⟨.normal, [a0, a1, v55], m, []⟩))) (fun w45 m46 =>
br (w45.getD 2 undef) (
retK (O (.call 21) [(w45.getD 0 undef), (w45.getD 1 undef)] m46 []) (fun v56 m57 =>
some ⟨.ret, [(w45.getD 0 undef), (w45.getD 1 undef)], m57, []⟩) (fun p58 m59 => some ⟨.panic p58, [(w45.getD 0 undef), (w45.getD 1 undef)], m59, []⟩)) (
(aCheck (w45.getD 0 undef)).bind fun v60 =>
(aFieldAddr 2 v60).bind fun v61 =>
(aLd 1 false v61 m46).bind fun v62 =>
(aCheck (w45.getD 0 undef)).bind fun v63 =>
(aFieldAddr 0 v63).bind fun v64 =>
(aSt 1 v64 (.int .i64 (1)) m46).bind fun m65 =>
(aCheck (w45.getD 0 undef)).bind fun v66 =>
(aFieldAddr 3 v66).bind fun v67 =>
(aSt 1 v67 v62 m65).bind fun m68 =>
some ⟨.normal, [(w45.getD 0 undef), (w45.getD 1 undef)], m68, []⟩)) (fun id48 w45 m46 =>
if id48 = 0 then
some ⟨.normal, [(w45.getD 0 undef), (w45.getD 1 undef)], m46, []⟩ else
some ⟨.exit id48, [(w45.getD 0 undef), (w45.getD 1 undef)], m46, []⟩) (fun w45 m46 =>
some ⟨.ret, [(w45.getD 0 undef), (w45.getD 1 undef)], m46, []⟩) (fun p49 w45 m46 =>
some ⟨.panic p49, [(w45.getD 0 undef), (w45.getD 1 undef)], m46, []⟩))) (
cutN (
(aBin .neq a1 (.int .u8 (58))).bind fun v74 =>
br v74 (
some ⟨.normal, [a0, a1, v74], m, []⟩) (
(aBin .eql v3 (.int .i64 (0))).bind fun v75 =>
br v75 (
some ⟨.normal, [a0, a1, v75], m, []⟩) (
(aCheck a0).bind fun v76 =>
(aFieldAddr 2 v76).bind fun v77 =>
(aLd 1 false v77 m).bind fun v78 =>
(aBin .gtr v78 (.int .i64 (20000))).bind fun v79 =>
some ⟨.normal, [a0, a1, v79], m, []⟩))) (fun w69 m70 =>
br (w69.getD 2 undef) (
retK (O (.call 21) [(w69.getD 0 undef), (w69.getD 1 undef)] m70 []) (fun v80 m81 =>
some ⟨.ret, [(w69.getD 0 undef), (w69.getD 1 undef)], m81, []⟩) (fun p82 m83 => some ⟨.panic p82, [(w69.getD 0 undef), (w69.getD 1 undef)], m83, []⟩)) (
(aCheck (w69.getD 0 undef)).bind fun v84 =>
(aFieldAddr 2 v84).bind fun v85 =>
(aLd 1 false v85 m70).bind fun v86 =>
(aCheck (w69.getD 0 undef)).bind fun v87 =>
(aFieldAddr 0 v87).bind fun v88 =>
(aSt 1 v88 (.int .i64 (1)) m70).bind fun m89 =>
(aCheck (w69.getD 0 undef)).bind fun v90 =>
(aFieldAddr 3 v90).bind fun v91 =>
(aSt 1 v91 v86 m89).bind fun m92 =>
some ⟨.normal, [(w69.getD 0 undef), (w69.getD 1 undef)], m92, []⟩)) (fun id72 w69 m70 =>
if id72 = 0 then
some ⟨.normal, [(w69.getD 0 undef), (w69.getD 1 undef)], m70, []⟩ else
some ⟨.exit id72, [(w69.getD 0 undef), (w69.getD 1 undef)], m70, []⟩) (fun w69 m70 =>
some ⟨.ret, [(w69.getD 0 undef), (w69.getD 1 undef)], m70, []⟩) (fun p73 w69 m70 =>
some ⟨.panic p73, [(w69.getD 0 undef), (w69.getD 1 undef)], m70, []⟩))) (fun w4 m5 =>
(aCheck (w4.getD 0 undef)).bind fun v93 =>
(aFieldAddr 1 v93).bind fun v94 =>
(aLd 1 false v94 m5).bind fun v95 =>
(aLit 1 1 [(.int .u8 (0))] [(0, (w4.getD 1 undef))] m5).bind fun r96 =>
(aApp false 1 1 v95 r96.1 r96.2).bind fun r97 =>
(aCheck (w4.getD 0 undef)).bind fun v98 =>
(aFieldAddr 1 v98).bind fun v99 =>
(aSt 1 v99 r97.1 r97.2).bind fun m100 =>
some ⟨.ret, [.tuple [].toArray], m100, []⟩) (fun id7 w4 m5 =>
none) (fun w4 m5 =>
some ⟨.ret, [.tuple [].toArray], m5, []⟩) (fun p8 w4 m5 =>
some ⟨.panic p8, [], m5, []⟩)
theorem R20 (gv : FuncId → Option (List Value → Mem → Option (Value × Mem))) (hg : gv 20 = none) {a0 a1 : Value} {m : Mem} {r : Out} (h : x20 (L (CC gv)) a0 a1 m = some r) : L (CC gv) (.call 20) [a0, a1] m [] = some r := R_call (C := CC gv) (fn := ir20) hg rfl (Nat.le_of_ble_eq_true rfl) (x := x20 (L (CC gv)) a0 a1 m) (by kernel_rfl) h
/-- (*noonmark/wire.Splitter).bad -/
def x21 (O : Orc) (a0 a1 : Value) (m : Mem) : Option Out :=
(aCheck a0).bind fun v0 =>
(aFieldAddr 4 v0).bind fun v1 =>
(aLd 1 false v1 m).bind fun v2 =>
(aBuild [(0, 1), (1, 1)] [(.bool false), (.slice none 0 0)] [(0, (.bool true))]).bind fun v3 =>
(aLit 2 1 [(.bool false), (.slice none 0 0)] [(0, v3)] m).bind fun r4 =>
(aApp false 2 32 v2 r4.1 r4.2).bind fun r5 =>
(aCheck a0).bind fun v6 =>
(aFieldAddr 4 v6).bind fun v7 =>
(aSt 1 v7 r5.1 r5.2).bind fun m8 =>
retK (O (.call 22) [a0] m8 []) (fun v9 m10 =>
(aBin .neq a1 (.int .u8 (10))).bind fun v12 =>
br v12 (
(aCheck a0).bind fun v13 =>
(aFieldAddr 0 v13).bind fun v14 =>
(aSt 1 v14 (.int .i64 (2)) m10).bind fun m15 =>
some ⟨.ret, [.tuple [].toArray], m15, []⟩) (
some ⟨.ret, [.tuple [].toArray], m10, []⟩)) (fun p11 m16 => some ⟨.panic p11, [], m16, []⟩)
theorem R21 (gv : FuncId → Option (List Value → Mem → Option (Value × Mem))) (hg : gv 21 = none) {a0 a1 : Value} {m : Mem} {r : Out} (h : x21 (L (CC gv)) a0 a1 m = some r) : L (CC gv) (.call 21) [a0, a1] m [] = some r := R_call (C := CC gv) (fn := ir21) hg rfl (Nat.le_of_ble_eq_true rfl) (x := x21 (L (CC gv)) a0 a1 m) (by kernel_rfl) h
/-- (*noonmark/wire.Splitter).begin -/
def x22 (O : Orc) (a0 : Value) (m : Mem) : Option Out :=
(aCheck a0).bind fun v0 =>
(aFieldAddr 0 v0).bind fun v1 =>
(aSt 1 v1 (.int .i64 (0)) m).bind fun m2 =>
(aCheck a0).bind fun v3 =>
(aFieldAddr 1 v3).bind fun v4 =>
(aSt 1 v4 (.slice none 0 0) m2).bind fun m5 =>
(aCheck a0).bind fun v6 =>
(aFieldAddr 2 v6).bind fun v7 =>
(aSt 1 v7 (.int .i64 (0)) m5).bind fun m8 =>
(aCheck a0).bind fun v9 =>
(aFieldAddr 3 v9).bind fun v10 =>
(aSt 1 v10 (.int .i64 (0)) m8).bind fun m11 =>
some ⟨.ret, [.tuple [].toArray], m11, []⟩
theorem R22 (gv : FuncId → Option (List Value → Mem → Option (Value × Mem))) (hg : gv 22 = none) {a0 : Value} {m : Mem} {r : Out} (h : x22 (L (CC gv)) a0 m = some r) : L (CC gv) (.call 22) [a0] m [] = some r := R_call (C := CC gv) (fn := ir22) hg rfl (Nat.le_of_ble_eq_true rfl) (x := x22 (L (CC gv)) a0 m) (by kernel_rfl) h
end Go.Proofs.Ythihiidooomdnaa.D
