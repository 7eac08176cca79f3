/-
  What each function does: printed by Vtool, checked by the kernel.
-/
import Derived.Test.YtjojfpmelhaknaaIR
import Derived.Test.YtjojfpmelhaknaaVG
namespace Go.Proofs.Ytjojfpmelhaknaa.D
open Go.RowKit
set_option maxRecDepth 100000
set_option linter.unusedVariables false
def puT : List Nat := [3, 4, 5, 6, 7, 8, 9, 10, 11, 12, 13, 14, 15, 16, 17, 18, 19, 20, 21, 22, 23, 24, 25, 26, 27, 28, 29, 30, 33, 34, 36, 37, 38, 39, 40, 45]
def CV : CodeV := ⟨look irsT, look lpsT, gvT, fun f => puT.contains f⟩
def y300 (O : Orc) (b0 b1 b2 b3 b4 b5 : Value) (m : Mem) : Option Out :=
(vLenL b1).bind fun v0 =>
(aBin .lss b5 v0).bind fun v1 =>
br v1 (
(vIdx 3 b1 b5).bind fun v2 =>
(vFieldAddr 0 v2).bind fun v3 =>
(vLd 1 false v3 m).bind fun v4 =>
(vIdx 3 b1 b5).bind fun v5 =>
(vFieldAddr 1 v5).bind fun v6 =>
(vLd 1 false v6 m).bind fun v7 =>
(vIdx 3 b1 b5).bind fun v8 =>
(vFieldAddr 2 v8).bind fun v9 =>
(vLd 1 false v9 m).bind fun v10 =>
retK (O (.call 13) [b3, v4, v7, v10] m []) (fun v11 m12 =>
(aExtract 0 v11).bind fun v14 =>
(aExtract 1 v11).bind fun v15 =>
(vIdx 3 b1 b5).bind fun v16 =>
(vFieldAddr 0 v16).bind fun v17 =>
(vLd 1 false v17 m12).bind fun v18 =>
(vIdx 3 b1 b5).bind fun v19 =>
(vFieldAddr 1 v19).bind fun v20 =>
(vLd 1 false v20 m12).bind fun v21 =>
(vIdx 3 b1 b5).bind fun v22 =>
(vFieldAddr 2 v22).bind fun v23 =>
(vLd 1 false v23 m12).bind fun v24 =>
retK (O (.call 14) [b0, v18, v21, v24] m12 []) (fun v25 m26 =>
(aExtract 0 v25).bind fun v28 =>
(aExtract 1 v25).bind fun v29 =>
(aBin .neq v15 v29).bind fun v30 =>
br v30 (
some ⟨.ret, [b0, b1, (.bool false), b3, b4, b5], m26, []⟩) (
retK (O (.call 15) [v14] m26 []) (fun v31 m32 =>
(aBin .neq v31 v28).bind fun v34 =>
br v34 (
some ⟨.ret, [b0, b1, (.bool false), b3, b4, b5], m32, []⟩) (
retK (O (.call 15) [b3] m32 []) (fun v35 m36 =>
(aBin .neq v35 b0).bind fun v38 =>
br v38 (
some ⟨.ret, [b0, b1, (.bool false), b3, b4, b5], m36, []⟩) (
cutN (
(aBin .eql v15 (.int .i64 (0))).bind fun v44 =>
br v44 (
some ⟨.normal, [v28, b1, b2, v14, b4, b5], m36, []⟩) (
some ⟨.normal, [b0, b1, b2, b3, b4, b5], m36, []⟩)) (fun w39 m40 =>
retK (O (.call 12) [(w39.getD 3 undef)] m40 []) (fun v45 m46 =>
(aLenS (w39.getD 0 undef)).bind fun v48 =>
(aBin .neq v45 v48).bind fun v49 =>
br v49 (
some ⟨.ret, [(w39.getD 0 undef), (w39.getD 1 undef), (.bool false), (w39.getD 3 undef), (w39.getD 4 undef), (w39.getD 5 undef)], m46, []⟩) (
retK (O (.call 16) [(w39.getD 3 undef)] m46 []) (fun v50 m51 =>
retK (O (.call 17) [(w39.getD 0 undef)] m51 []) (fun v53 m54 =>
(vLenL v53).bind fun v56 =>
(aBin .neq v50 v56).bind fun v57 =>
br v57 (
some ⟨.ret, [(w39.getD 0 undef), (w39.getD 1 undef), (.bool false), (w39.getD 3 undef), (w39.getD 4 undef), (w39.getD 5 undef)], m54, []⟩) (
(aBin .add (w39.getD 5 undef) (.int .i64 (1))).bind fun v58 =>
O (.loop 300) [(w39.getD 0 undef), (w39.getD 1 undef), (w39.getD 2 undef), (w39.getD 3 undef), (w39.getD 4 undef), v58] m54 [])) (fun p55 m59 => some ⟨.panic p55, [(w39.getD 0 undef), (w39.getD 1 undef), (w39.getD 2 undef), (w39.getD 3 undef), (w39.getD 4 undef), (w39.getD 5 undef)], m59, []⟩)) (fun p52 m60 => some ⟨.panic p52, [(w39.getD 0 undef), (w39.getD 1 undef), (w39.getD 2 undef), (w39.getD 3 undef), (w39.getD 4 undef), (w39.getD 5 undef)], m60, []⟩))) (fun p47 m61 => some ⟨.panic p47, [(w39.getD 0 undef), (w39.getD 1 undef), (w39.getD 2 undef), (w39.getD 3 undef), (w39.getD 4 undef), (w39.getD 5 undef)], m61, []⟩)) (fun id42 w39 m40 =>
if id42 = 1 then
(aBin .add (w39.getD 5 undef) (.int .i64 (1))).bind fun v62 =>
O (.loop 300) [(w39.getD 0 undef), (w39.getD 1 undef), (w39.getD 2 undef), (w39.getD 3 undef), (w39.getD 4 undef), v62] m40 [] else
some ⟨.exit id42, [(w39.getD 0 undef), (w39.getD 1 undef), (w39.getD 2 undef), (w39.getD 3 undef), (w39.getD 4 undef), (w39.getD 5 undef)], m40, []⟩) (fun w39 m40 =>
some ⟨.ret, [(w39.getD 0 undef), (w39.getD 1 undef), (w39.getD 2 undef), (w39.getD 3 undef), (w39.getD 4 undef), (w39.getD 5 undef)], m40, []⟩) (fun p43 w39 m40 =>
some ⟨.panic p43, [(w39.getD 0 undef), (w39.getD 1 undef), (w39.getD 2 undef), (w39.getD 3 undef), (w39.getD 4 undef), (w39.getD 5 undef)], m40, []⟩))) (fun p37 m63 => some ⟨.panic p37, [b0, b1, b2, b3, b4, b5], m63, []⟩))) (fun p33 m64 => some ⟨.panic p33, [b0, b1, b2, b3, b4, b5], m64, []⟩))) (fun p27 m65 => some ⟨.panic p27, [b0, b1, b2, b3, b4, b5], m65, []⟩)) (fun p13 m66 => some ⟨.panic p13, [b0, b1, b2, b3, b4, b5], m66, []⟩)) (
some ⟨.exit 0, [b0, b1, b2, b3, b4, b5], m, []⟩)
theorem Q300 {b0 b1 b2 b3 b4 b5 : Value} {m : Mem} {r : Out} (h : y300 (LV CV) b0 b1 b2 b3 b4 b5 m = some r) : LV CV (.loop 300) [b0, b1, b2, b3, b4, b5] m [] = some r := R_loopV (C := CV) (keep := [0, 1, 4, 5, 6, 7]) (b := lb300) rfl (x := y300 (LV CV) b0 b1 b2 b3 b4 b5 m) (by kernel_rfl) h
/-- noonmark/noonmarklaw03.RopePlays -/
def x3 (O : Orc) (a0 a1 : Value) (m : Mem) : Option Out :=
retK (O (.call 9) [a0, a1] m []) (fun v0 m1 =>
(aUn .not v0).bind fun v3 =>
br v3 (
retK (O (.call 10) [] m1 []) (fun v4 m5 =>
some ⟨.ret, [v4], m5, []⟩) (fun p6 m7 => some ⟨.panic p6, [], m7, []⟩)) (
retK (O (.call 11) [a0] m1 []) (fun v8 m9 =>
(aExtract 0 v8).bind fun v11 =>
(aExtract 1 v8).bind fun v12 =>
(aLenS a0).bind fun v13 =>
(aBin .gtr v13 (.int .i64 (20000))).bind fun v14 =>
br v14 (
(aBin .eql v12 (.int .i64 (17))).bind fun v15 =>
br v15 (
retK (O (.call 12) [v11] m9 []) (fun v16 m17 =>
(aBin .eql v16 (.int .i64 (0))).bind fun v19 =>
br v19 (
retK (O (.call 10) [] m17 []) (fun v20 m21 =>
some ⟨.ret, [v20], m21, []⟩) (fun p22 m23 => some ⟨.panic p22, [], m23, []⟩)) (
some ⟨.ret, [(.bool false)], m17, []⟩)) (fun p18 m24 => some ⟨.panic p18, [], m24, []⟩)) (
some ⟨.ret, [(.bool false)], m9, []⟩)) (
lpN (O (.loop 300) [a0, a1, (.bool false), v11, v12, (.int .i64 (0))] m9 []) (fun id28 w25 m26 =>
if id28 = 0 then
(aBin .eql (w25.getD 4 undef) (.int .i64 (0))).bind fun v30 =>
br v30 (
retK (O (.call 10) [] m26 []) (fun v31 m32 =>
some ⟨.ret, [v31], m32, []⟩) (fun p33 m34 => some ⟨.panic p33, [], m34, []⟩)) (
some ⟨.ret, [(.bool false)], m26, []⟩) else
none) (fun w25 m26 =>
some ⟨.ret, [(w25.getD 2 undef)], m26, []⟩) (fun p29 w25 m26 =>
some ⟨.panic p29, [], m26, []⟩))) (fun p10 m35 => some ⟨.panic p10, [], m35, []⟩))) (fun p2 m36 => some ⟨.panic p2, [], m36, []⟩)
theorem R3 {a0 a1 : Value} {m : Mem} {r : Out} (h : (x3 (LV CV) a0 a1 ⟨[], m.next, m.next, 0⟩).bind (close m) = some r) (hc : [a0, a1].all (clo FUEL) = true := by simp) : LV CV (.call 3) [a0, a1] m [] = some r := R_callP (C := CV) (fn := ir3) rfl rfl rfl (Nat.le_of_ble_eq_true rfl) hc (x := x3 (LV CV) a0 a1 ⟨[], m.next, m.next, 0⟩) (by kernel_rfl) h
def y400 (O : Orc) (b0 b1 b2 b3 b4 : Value) (m : Mem) : Option Out :=
(vLenL b0).bind fun v0 =>
(aBin .lss b4 v0).bind fun v1 =>
br v1 (
(aBin .eql b3 (.int .i64 (0))).bind fun v2 =>
br v2 (
(vIdx 3 b0 b4).bind fun v3 =>
(vFieldAddr 0 v3).bind fun v4 =>
(vLd 1 false v4 m).bind fun v5 =>
(vIdx 3 b0 b4).bind fun v6 =>
(vFieldAddr 1 v6).bind fun v7 =>
(vLd 1 false v7 m).bind fun v8 =>
(vIdx 3 b0 b4).bind fun v9 =>
(vFieldAddr 2 v9).bind fun v10 =>
(vLd 1 false v10 m).bind fun v11 =>
retK (O (.call 13) [b2, v5, v8, v11] m []) (fun v12 m13 =>
(aExtract 0 v12).bind fun v15 =>
(aExtract 1 v12).bind fun v16 =>
cutN (
(aBin .eql v16 (.int .i64 (0))).bind fun v22 =>
br v22 (
some ⟨.normal, [b0, b1, v15, b3, b4], m13, []⟩) (
some ⟨.normal, [b0, b1, b2, b3, b4], m13, []⟩)) (fun w17 m18 =>
retK (O (.call 18) [(w17.getD 2 undef)] m18 []) (fun v23 m24 =>
(aBin .lss v23 (.int .i64 (0))).bind fun v26 =>
br v26 (
some ⟨.ret, [(w17.getD 0 undef), (.bool false), (w17.getD 2 undef), (w17.getD 3 undef), (w17.getD 4 undef)], m24, []⟩) (
retK (O (.call 18) [(w17.getD 2 undef)] m24 []) (fun v27 m28 =>
(aBin .gtr v27 (.int .i64 (30))).bind fun v30 =>
br v30 (
some ⟨.ret, [(w17.getD 0 undef), (.bool false), (w17.getD 2 undef), (w17.getD 3 undef), (w17.getD 4 undef)], m28, []⟩) (
retK (O (.call 18) [(w17.getD 2 undef)] m28 []) (fun v31 m32 =>
(aBin .eql v31 (.int .i64 (0))).bind fun v34 =>
retK (O (.call 12) [(w17.getD 2 undef)] m32 []) (fun v35 m36 =>
(aBin .eql v35 (.int .i64 (0))).bind fun v38 =>
(aEqB true v34 v38).bind fun v39 =>
br v39 (
some ⟨.ret, [(w17.getD 0 undef), (.bool false), (w17.getD 2 undef), (w17.getD 3 undef), (w17.getD 4 undef)], m36, []⟩) (
(aBin .add (w17.getD 4 undef) (.int .i64 (1))).bind fun v40 =>
O (.loop 400) [(w17.getD 0 undef), (w17.getD 1 undef), (w17.getD 2 undef), (w17.getD 3 undef), v40] m36 [])) (fun p37 m41 => some ⟨.panic p37, [(w17.getD 0 undef), (w17.getD 1 undef), (w17.getD 2 undef), (w17.getD 3 undef), (w17.getD 4 undef)], m41, []⟩)) (fun p33 m42 => some ⟨.panic p33, [(w17.getD 0 undef), (w17.getD 1 undef), (w17.getD 2 undef), (w17.getD 3 undef), (w17.getD 4 undef)], m42, []⟩))) (fun p29 m43 => some ⟨.panic p29, [(w17.getD 0 undef), (w17.getD 1 undef), (w17.getD 2 undef), (w17.getD 3 undef), (w17.getD 4 undef)], m43, []⟩))) (fun p25 m44 => some ⟨.panic p25, [(w17.getD 0 undef), (w17.getD 1 undef), (w17.getD 2 undef), (w17.getD 3 undef), (w17.getD 4 undef)], m44, []⟩)) (fun id20 w17 m18 =>
if id20 = 1 then
(aBin .add (w17.getD 4 undef) (.int .i64 (1))).bind fun v45 =>
O (.loop 400) [(w17.getD 0 undef), (w17.getD 1 undef), (w17.getD 2 undef), (w17.getD 3 undef), v45] m18 [] else
some ⟨.exit id20, [(w17.getD 0 undef), (w17.getD 1 undef), (w17.getD 2 undef), (w17.getD 3 undef), (w17.getD 4 undef)], m18, []⟩) (fun w17 m18 =>
some ⟨.ret, [(w17.getD 0 undef), (w17.getD 1 undef), (w17.getD 2 undef), (w17.getD 3 undef), (w17.getD 4 undef)], m18, []⟩) (fun p21 w17 m18 =>
some ⟨.panic p21, [(w17.getD 0 undef), (w17.getD 1 undef), (w17.getD 2 undef), (w17.getD 3 undef), (w17.getD 4 undef)], m18, []⟩)) (fun p14 m46 => some ⟨.panic p14, [b0, b1, b2, b3, b4], m46, []⟩)) (
some ⟨.exit 0, [b0, b1, b2, b3, b4], m, []⟩)) (
some ⟨.exit 0, [b0, b1, b2, b3, b4], m, []⟩)
theorem Q400 {b0 b1 b2 b3 b4 : Value} {m : Mem} {r : Out} (h : y400 (LV CV) b0 b1 b2 b3 b4 m = some r) : LV CV (.loop 400) [b0, b1, b2, b3, b4] m [] = some r := R_loopV (C := CV) (keep := [1, 4, 5, 6, 7]) (b := lb400) rfl (x := y400 (LV CV) b0 b1 b2 b3 b4 m) (by kernel_rfl) h
/-- noonmark/noonmarklaw03.RopeHeight -/
def x4 (O : Orc) (a0 a1 : Value) (m : Mem) : Option Out :=
retK (O (.call 9) [a0, a1] m []) (fun v0 m1 =>
(aUn .not v0).bind fun v3 =>
br v3 (
retK (O (.call 10) [] m1 []) (fun v4 m5 =>
some ⟨.ret, [v4], m5, []⟩) (fun p6 m7 => some ⟨.panic p6, [], m7, []⟩)) (
retK (O (.call 11) [a0] m1 []) (fun v8 m9 =>
(aExtract 0 v8).bind fun v11 =>
(aExtract 1 v8).bind fun v12 =>
lpN (O (.loop 400) [a1, (.bool false), v11, v12, (.int .i64 (0))] m9 []) (fun id16 w13 m14 =>
if id16 = 0 then
retK (O (.call 10) [] m14 []) (fun v18 m19 =>
some ⟨.ret, [v18], m19, []⟩) (fun p20 m21 => some ⟨.panic p20, [], m21, []⟩) else
none) (fun w13 m14 =>
some ⟨.ret, [(w13.getD 1 undef)], m14, []⟩) (fun p17 w13 m14 =>
some ⟨.panic p17, [], m14, []⟩)) (fun p10 m22 => some ⟨.panic p10, [], m22, []⟩))) (fun p2 m23 => some ⟨.panic p2, [], m23, []⟩)
theorem R4 {a0 a1 : Value} {m : Mem} {r : Out} (h : (x4 (LV CV) a0 a1 ⟨[], m.next, m.next, 0⟩).bind (close m) = some r) (hc : [a0, a1].all (clo FUEL) = true := by simp) : LV CV (.call 4) [a0, a1] m [] = some r := R_callP (C := CV) (fn := ir4) rfl rfl rfl (Nat.le_of_ble_eq_true rfl) hc (x := x4 (LV CV) a0 a1 ⟨[], m.next, m.next, 0⟩) (by kernel_rfl) h
/-- noonmark/noonmarklaw03.RopeBack -/
def x5 (O : Orc) (a0 a1 a2 a3 : Value) (m : Mem) : Option Out :=
retK (O (.call 9) [a0, a1] m []) (fun v0 m1 =>
(aUn .not v0).bind fun v3 =>
br v3 (
retK (O (.call 10) [] m1 []) (fun v4 m5 =>
some ⟨.ret, [v4], m5, []⟩) (fun p6 m7 => some ⟨.panic p6, [], m7, []⟩)) (
(aLenS a0).bind fun v8 =>
(aBin .gtr v8 (.int .i64 (2000))).bind fun v9 =>
br v9 (
retK (O (.call 10) [] m1 []) (fun v10 m11 =>
some ⟨.ret, [v10], m11, []⟩) (fun p12 m13 => some ⟨.panic p12, [], m13, []⟩)) (
retK (O (.call 19) [a0, a1] m1 []) (fun v14 m15 =>
(aExtract 0 v14).bind fun v17 =>
(aExtract 1 v14).bind fun v18 =>
(aExtract 2 v14).bind fun v19 =>
(aUn .not v19).bind fun v20 =>
br v20 (
retK (O (.call 10) [] m15 []) (fun v21 m22 =>
some ⟨.ret, [v21], m22, []⟩) (fun p23 m24 => some ⟨.panic p23, [], m24, []⟩)) (
retK (O (.call 20) [v17, a2] m15 []) (fun v25 m26 =>
(aExtract 0 v25).bind fun v28 =>
(aExtract 1 v25).bind fun v29 =>
(aExtract 2 v25).bind fun v30 =>
cutN (
(aBin .eql v30 (.int .i64 (0))).bind fun v36 =>
br v36 (
retK (O (.call 21) [v17, v28, v29] m26 []) (fun v37 m38 =>
(aExtract 0 v37).bind fun v40 =>
(aExtract 1 v37).bind fun v41 =>
(aBin .neq v41 (.int .i64 (0))).bind fun v42 =>
br v42 (
some ⟨.ret, [a2, a3, (.bool false), v17, v30], m38, []⟩) (
(aBin .neq v40 a2).bind fun v43 =>
br v43 (
some ⟨.ret, [a2, a3, (.bool false), v17, v30], m38, []⟩) (
some ⟨.normal, [a2, a3, (.bool false), v17, v30], m38, []⟩))) (fun p39 m44 => some ⟨.panic p39, [a2, a3, (.bool false), v17, v30], m44, []⟩)) (
some ⟨.normal, [a2, a3, (.bool false), v17, v30], m26, []⟩)) (fun w31 m32 =>
retK (O (.call 21) [(w31.getD 3 undef), (w31.getD 0 undef), (w31.getD 1 undef)] m32 []) (fun v45 m46 =>
(aExtract 0 v45).bind fun v48 =>
(aExtract 1 v45).bind fun v49 =>
cutN (
(aBin .eql v49 (.int .i64 (0))).bind fun v55 =>
br v55 (
retK (O (.call 20) [(w31.getD 3 undef), v48] m46 []) (fun v56 m57 =>
(aExtract 0 v56).bind fun v59 =>
(aExtract 1 v56).bind fun v60 =>
(aExtract 2 v56).bind fun v61 =>
(aBin .neq v61 (.int .i64 (0))).bind fun v62 =>
br v62 (
some ⟨.ret, [(w31.getD 0 undef), (.bool false), (w31.getD 3 undef), (w31.getD 4 undef)], m57, []⟩) (
(aBin .neq v59 (w31.getD 0 undef)).bind fun v63 =>
br v63 (
some ⟨.ret, [(w31.getD 0 undef), (.bool false), (w31.getD 3 undef), (w31.getD 4 undef)], m57, []⟩) (
(aBin .neq v60 (w31.getD 1 undef)).bind fun v64 =>
br v64 (
some ⟨.ret, [(w31.getD 0 undef), (.bool false), (w31.getD 3 undef), (w31.getD 4 undef)], m57, []⟩) (
some ⟨.normal, [(w31.getD 0 undef), (w31.getD 2 undef), (w31.getD 3 undef), (w31.getD 4 undef)], m57, []⟩)))) (fun p58 m65 => some ⟨.panic p58, [(w31.getD 0 undef), (w31.getD 2 undef), (w31.getD 3 undef), (w31.getD 4 undef)], m65, []⟩)) (
some ⟨.normal, [(w31.getD 0 undef), (w31.getD 2 undef), (w31.getD 3 undef), (w31.getD 4 undef)], m46, []⟩)) (fun w50 m51 =>
(aBin .eql (w50.getD 3 undef) (.int .i64 (0))).bind fun v66 =>
(aBin .geq (w50.getD 0 undef) (.int .i64 (0))).bind fun v67 =>
br v67 (
retK (O (.call 12) [(w50.getD 2 undef)] m51 []) (fun v68 m69 =>
(aBin .leq (w50.getD 0 undef) v68).bind fun v71 =>
(aEqB false v66 v71).bind fun v72 =>
br v72 (
retK (O (.call 10) [] m69 []) (fun v73 m74 =>
some ⟨.ret, [v73], m74, []⟩) (fun p75 m76 => some ⟨.panic p75, [], m76, []⟩)) (
some ⟨.ret, [(.bool false)], m69, []⟩)) (fun p70 m77 => some ⟨.panic p70, [], m77, []⟩)) (
(aEqB false v66 (.bool false)).bind fun v78 =>
br v78 (
retK (O (.call 10) [] m51 []) (fun v79 m80 =>
some ⟨.ret, [v79], m80, []⟩) (fun p81 m82 => some ⟨.panic p81, [], m82, []⟩)) (
some ⟨.ret, [(.bool false)], m51, []⟩))) (fun id53 w50 m51 =>
none) (fun w50 m51 =>
some ⟨.ret, [(w50.getD 1 undef)], m51, []⟩) (fun p54 w50 m51 =>
some ⟨.panic p54, [], m51, []⟩)) (fun p47 m83 => some ⟨.panic p47, [], m83, []⟩)) (fun id34 w31 m32 =>
none) (fun w31 m32 =>
some ⟨.ret, [(w31.getD 2 undef)], m32, []⟩) (fun p35 w31 m32 =>
some ⟨.panic p35, [], m32, []⟩)) (fun p27 m84 => some ⟨.panic p27, [], m84, []⟩))) (fun p16 m85 => some ⟨.panic p16, [], m85, []⟩)))) (fun p2 m86 => some ⟨.panic p2, [], m86, []⟩)
theorem R5 {a0 a1 a2 a3 : Value} {m : Mem} {r : Out} (h : (x5 (LV CV) a0 a1 a2 a3 ⟨[], m.next, m.next, 0⟩).bind (close m) = some r) (hc : [a0, a1, a2, a3].all (clo FUEL) = true := by simp) : LV CV (.call 5) [a0, a1, a2, a3] m [] = some r := R_callP (C := CV) (fn := ir5) rfl rfl rfl (Nat.le_of_ble_eq_true rfl) hc (x := x5 (LV CV) a0 a1 a2 a3 ⟨[], m.next, m.next, 0⟩) (by kernel_rfl) h
def y600 (O : Orc) (b0 b1 b2 b3 : Value) (m : Mem) : Option Out :=
retK (O (.call 16) [b1] m []) (fun v0 m1 =>
(aBin .lss b3 v0).bind fun v3 =>
br v3 (
retK (O (.call 23) [b1, b3] m1 []) (fun v4 m5 =>
(aExtract 0 v4).bind fun v7 =>
(aExtract 1 v4).bind fun v8 =>
(aBin .neq v8 (.int .i64 (0))).bind fun v9 =>
br v9 (
some ⟨.ret, [(.bool false), b1, b2, b3], m5, []⟩) (
(aBin .gtr b3 (.int .i64 (0))).bind fun v10 =>
br v10 (
(aBin .add b2 (S [10])).bind fun v11 =>
(aBin .add v11 v7).bind fun v12 =>
(aBin .add b3 (.int .i64 (1))).bind fun v13 =>
O (.loop 600) [b0, b1, v12, v13] m5 []) (
(aBin .add b2 v7).bind fun v14 =>
(aBin .add b3 (.int .i64 (1))).bind fun v15 =>
O (.loop 600) [b0, b1, v14, v15] m5 []))) (fun p6 m16 => some ⟨.panic p6, [b0, b1, b2, b3], m16, []⟩)) (
some ⟨.exit 0, [b0, b1, b2, b3], m1, []⟩)) (fun p2 m17 => some ⟨.panic p2, [b0, b1, b2, b3], m17, []⟩)
theorem Q600 {b0 b1 b2 b3 : Value} {m : Mem} {r : Out} (h : y600 (LV CV) b0 b1 b2 b3 m = some r) : LV CV (.loop 600) [b0, b1, b2, b3] m [] = some r := R_loopV (C := CV) (keep := [10, 11, 20, 21]) (b := lb600) rfl (x := y600 (LV CV) b0 b1 b2 b3 m) (by kernel_rfl) h
/-- noonmark/noonmarklaw03.RopeParts -/
def x6 (O : Orc) (a0 a1 a2 a3 a4 : Value) (m : Mem) : Option Out :=
retK (O (.call 9) [a0, a1] m []) (fun v0 m1 =>
(aUn .not v0).bind fun v3 =>
br v3 (
retK (O (.call 10) [] m1 []) (fun v4 m5 =>
some ⟨.ret, [v4], m5, []⟩) (fun p6 m7 => some ⟨.panic p6, [], m7, []⟩)) (
(aLenS a0).bind fun v8 =>
(aBin .gtr v8 (.int .i64 (2000))).bind fun v9 =>
br v9 (
retK (O (.call 10) [] m1 []) (fun v10 m11 =>
some ⟨.ret, [v10], m11, []⟩) (fun p12 m13 => some ⟨.panic p12, [], m13, []⟩)) (
retK (O (.call 19) [a0, a1] m1 []) (fun v14 m15 =>
(aExtract 0 v14).bind fun v17 =>
(aExtract 1 v14).bind fun v18 =>
(aExtract 2 v14).bind fun v19 =>
(aUn .not v19).bind fun v20 =>
br v20 (
retK (O (.call 10) [] m15 []) (fun v21 m22 =>
some ⟨.ret, [v21], m22, []⟩) (fun p23 m24 => some ⟨.panic p23, [], m24, []⟩)) (
retK (O (.call 16) [v17] m15 []) (fun v25 m26 =>
(aBin .gtr v25 (.int .i64 (500))).bind fun v28 =>
br v28 (
retK (O (.call 10) [] m26 []) (fun v29 m30 =>
some ⟨.ret, [v29], m30, []⟩) (fun p31 m32 => some ⟨.panic p31, [], m32, []⟩)) (
retK (O (.call 22) [v17, a2, a3] m26 []) (fun v33 m34 =>
(aExtract 0 v33).bind fun v36 =>
(aExtract 1 v33).bind fun v37 =>
retK (O (.call 22) [v17, a3, a4] m34 []) (fun v38 m39 =>
(aExtract 0 v38).bind fun v41 =>
(aExtract 1 v38).bind fun v42 =>
retK (O (.call 22) [v17, a2, a4] m39 []) (fun v43 m44 =>
(aExtract 0 v43).bind fun v46 =>
(aExtract 1 v43).bind fun v47 =>
(aBin .eql v37 (.int .i64 (0))).bind fun v48 =>
br v48 (
(aBin .eql v42 (.int .i64 (0))).bind fun v49 =>
br v49 (
(aBin .neq v47 (.int .i64 (0))).bind fun v50 =>
br v50 (
some ⟨.ret, [(.bool false)], m44, []⟩) (
(aBin .add v36 v41).bind fun v51 =>
(aBin .neq v51 v46).bind fun v52 =>
br v52 (
some ⟨.ret, [(.bool false)], m44, []⟩) (
lpN (O (.loop 600) [(.bool false), v17, (S []), (.int .i64 (0))] m44 []) (fun id56 w53 m54 =>
if id56 = 0 then
retK (O (.call 15) [(w53.getD 1 undef)] m54 []) (fun v58 m59 =>
(aBin .eql (w53.getD 2 undef) v58).bind fun v61 =>
br v61 (
retK (O (.call 10) [] m59 []) (fun v62 m63 =>
some ⟨.ret, [v62], m63, []⟩) (fun p64 m65 => some ⟨.panic p64, [], m65, []⟩)) (
some ⟨.ret, [(.bool false)], m59, []⟩)) (fun p60 m66 => some ⟨.panic p60, [], m66, []⟩) else
none) (fun w53 m54 =>
some ⟨.ret, [(w53.getD 0 undef)], m54, []⟩) (fun p57 w53 m54 =>
some ⟨.panic p57, [], m54, []⟩)))) (
lpN (O (.loop 600) [(.bool false), v17, (S []), (.int .i64 (0))] m44 []) (fun id70 w67 m68 =>
if id70 = 0 then
retK (O (.call 15) [(w67.getD 1 undef)] m68 []) (fun v72 m73 =>
(aBin .eql (w67.getD 2 undef) v72).bind fun v75 =>
br v75 (
retK (O (.call 10) [] m73 []) (fun v76 m77 =>
some ⟨.ret, [v76], m77, []⟩) (fun p78 m79 => some ⟨.panic p78, [], m79, []⟩)) (
some ⟨.ret, [(.bool false)], m73, []⟩)) (fun p74 m80 => some ⟨.panic p74, [], m80, []⟩) else
none) (fun w67 m68 =>
some ⟨.ret, [(w67.getD 0 undef)], m68, []⟩) (fun p71 w67 m68 =>
some ⟨.panic p71, [], m68, []⟩))) (
lpN (O (.loop 600) [(.bool false), v17, (S []), (.int .i64 (0))] m44 []) (fun id84 w81 m82 =>
if id84 = 0 then
retK (O (.call 15) [(w81.getD 1 undef)] m82 []) (fun v86 m87 =>
(aBin .eql (w81.getD 2 undef) v86).bind fun v89 =>
br v89 (
retK (O (.call 10) [] m87 []) (fun v90 m91 =>
some ⟨.ret, [v90], m91, []⟩) (fun p92 m93 => some ⟨.panic p92, [], m93, []⟩)) (
some ⟨.ret, [(.bool false)], m87, []⟩)) (fun p88 m94 => some ⟨.panic p88, [], m94, []⟩) else
none) (fun w81 m82 =>
some ⟨.ret, [(w81.getD 0 undef)], m82, []⟩) (fun p85 w81 m82 =>
some ⟨.panic p85, [], m82, []⟩))) (fun p45 m95 => some ⟨.panic p45, [], m95, []⟩)) (fun p40 m96 => some ⟨.panic p40, [], m96, []⟩)) (fun p35 m97 => some ⟨.panic p35, [], m97, []⟩))) (fun p27 m98 => some ⟨.panic p27, [], m98, []⟩))) (fun p16 m99 => some ⟨.panic p16, [], m99, []⟩)))) (fun p2 m100 => some ⟨.panic p2, [], m100, []⟩)
theorem R6 {a0 a1 a2 a3 a4 : Value} {m : Mem} {r : Out} (h : (x6 (LV CV) a0 a1 a2 a3 a4 ⟨[], m.next, m.next, 0⟩).bind (close m) = some r) (hc : [a0, a1, a2, a3, a4].all (clo FUEL) = true := by simp) : LV CV (.call 6) [a0, a1, a2, a3, a4] m [] = some r := R_callP (C := CV) (fn := ir6) rfl rfl rfl (Nat.le_of_ble_eq_true rfl) hc (x := x6 (LV CV) a0 a1 a2 a3 a4 ⟨[], m.next, m.next, 0⟩) (by kernel_rfl) h
def y700 (O : Orc) (b0 b1 b2 b3 : Value) (m : Mem) : Option Out :=
(vLenL b1).bind fun v0 =>
(aBin .lss b3 v0).bind fun v1 =>
br v1 (
(vIdx 3 b1 b3).bind fun v2 =>
(vFieldAddr 0 v2).bind fun v3 =>
(vLd 1 false v3 m).bind fun v4 =>
(vIdx 3 b1 b3).bind fun v5 =>
(vFieldAddr 1 v5).bind fun v6 =>
(vLd 1 false v6 m).bind fun v7 =>
(vIdx 3 b1 b3).bind fun v8 =>
(vFieldAddr 2 v8).bind fun v9 =>
(vLd 1 false v9 m).bind fun v10 =>
retK (O (.call 13) [b2, v4, v7, v10] m []) (fun v11 m12 =>
(aBin .add b3 (.int .i64 (1))).bind fun v14 =>
O (.loop 700) [b0, b1, b2, v14] m12 []) (fun p13 m15 => some ⟨.panic p13, [b0, b1, b2, b3], m15, []⟩)) (
some ⟨.exit 0, [b0, b1, b2, b3], m, []⟩)
theorem Q700 {b0 b1 b2 b3 : Value} {m : Mem} {r : Out} (h : y700 (LV CV) b0 b1 b2 b3 m = some r) : LV CV (.loop 700) [b0, b1, b2, b3] m [] = some r := R_loopV (C := CV) (keep := [0, 1, 5, 7]) (b := lb700) rfl (x := y700 (LV CV) b0 b1 b2 b3 m) (by kernel_rfl) h
/-- noonmark/noonmarklaw03.RopeKeeps -/
def x7 (O : Orc) (a0 a1 : Value) (m : Mem) : Option Out :=
retK (O (.call 9) [a0, a1] m []) (fun v0 m1 =>
(aUn .not v0).bind fun v3 =>
br v3 (
retK (O (.call 10) [] m1 []) (fun v4 m5 =>
some ⟨.ret, [v4], m5, []⟩) (fun p6 m7 => some ⟨.panic p6, [], m7, []⟩)) (
(aLenS a0).bind fun v8 =>
(aBin .gtr v8 (.int .i64 (20000))).bind fun v9 =>
br v9 (
retK (O (.call 10) [] m1 []) (fun v10 m11 =>
some ⟨.ret, [v10], m11, []⟩) (fun p12 m13 => some ⟨.panic p12, [], m13, []⟩)) (
retK (O (.call 11) [a0] m1 []) (fun v14 m15 =>
(aExtract 0 v14).bind fun v17 =>
(aExtract 1 v14).bind fun v18 =>
lpN (O (.loop 700) [a0, a1, v17, (.int .i64 (0))] m15 []) (fun id22 w19 m20 =>
if id22 = 0 then
retK (O (.call 13) [(.pointer none), (.int .i64 (0)), (.int .i64 (0)), (S [97])] m20 []) (fun v24 m25 =>
(aExtract 0 v24).bind fun v27 =>
(aExtract 1 v24).bind fun v28 =>
retK (O (.call 23) [(.pointer none), (.int .i64 (0))] m25 []) (fun v29 m30 =>
(aExtract 0 v29).bind fun v32 =>
(aExtract 1 v29).bind fun v33 =>
retK (O (.call 15) [(w19.getD 2 undef)] m30 []) (fun v34 m35 =>
(aBin .eql v34 (w19.getD 0 undef)).bind fun v37 =>
br v37 (
retK (O (.call 15) [(.pointer none)] m35 []) (fun v38 m39 =>
(aBin .eql v38 (S [])).bind fun v41 =>
br v41 (
retK (O (.call 12) [(.pointer none)] m39 []) (fun v42 m43 =>
(aBin .eql v42 (.int .i64 (0))).bind fun v45 =>
br v45 (
retK (O (.call 16) [(.pointer none)] m43 []) (fun v46 m47 =>
(aBin .eql v46 (.int .i64 (1))).bind fun v49 =>
br v49 (
retK (O (.call 18) [(.pointer none)] m47 []) (fun v50 m51 =>
(aBin .eql v50 (.int .i64 (0))).bind fun v53 =>
br v53 (
retK (O (.call 15) [v27] m51 []) (fun v54 m55 =>
(aBin .eql v54 (S [97])).bind fun v57 =>
br v57 (
(aBin .eql v28 (.int .i64 (0))).bind fun v58 =>
br v58 (
(aBin .eql v32 (S [])).bind fun v59 =>
br v59 (
(aBin .eql v33 (.int .i64 (0))).bind fun v60 =>
br v60 (
retK (O (.call 10) [] m55 []) (fun v61 m62 =>
some ⟨.ret, [v61], m62, []⟩) (fun p63 m64 => some ⟨.panic p63, [], m64, []⟩)) (
some ⟨.ret, [(.bool false)], m55, []⟩)) (
some ⟨.ret, [(.bool false)], m55, []⟩)) (
some ⟨.ret, [(.bool false)], m55, []⟩)) (
some ⟨.ret, [(.bool false)], m55, []⟩)) (fun p56 m65 => some ⟨.panic p56, [], m65, []⟩)) (
some ⟨.ret, [(.bool false)], m51, []⟩)) (fun p52 m66 => some ⟨.panic p52, [], m66, []⟩)) (
some ⟨.ret, [(.bool false)], m47, []⟩)) (fun p48 m67 => some ⟨.panic p48, [], m67, []⟩)) (
some ⟨.ret, [(.bool false)], m43, []⟩)) (fun p44 m68 => some ⟨.panic p44, [], m68, []⟩)) (
some ⟨.ret, [(.bool false)], m39, []⟩)) (fun p40 m69 => some ⟨.panic p40, [], m69, []⟩)) (
some ⟨.ret, [(.bool false)], m35, []⟩)) (fun p36 m70 => some ⟨.panic p36, [], m70, []⟩)) (fun p31 m71 => some ⟨.panic p31, [], m71, []⟩)) (fun p26 m72 => some ⟨.panic p26, [], m72, []⟩) else
none) (fun w19 m20 =>
some ⟨.ret, [undef], m20, []⟩) (fun p23 w19 m20 =>
some ⟨.panic p23, [], m20, []⟩)) (fun p16 m73 => some ⟨.panic p16, [], m73, []⟩)))) (fun p2 m74 => some ⟨.panic p2, [], m74, []⟩)
theorem R7 {a0 a1 : Value} {m : Mem} {r : Out} (h : (x7 (LV CV) a0 a1 ⟨[], m.next, m.next, 0⟩).bind (close m) = some r) (hc : [a0, a1].all (clo FUEL) = true := by simp) : LV CV (.call 7) [a0, a1] m [] = some r := R_callP (C := CV) (fn := ir7) rfl rfl rfl (Nat.le_of_ble_eq_true rfl) hc (x := x7 (LV CV) a0 a1 ⟨[], m.next, m.next, 0⟩) (by kernel_rfl) h
/-- noonmark/noonmarklaw03.RopePlaces -/
def x8 (O : Orc) (a0 a1 a2 a3 : Value) (m : Mem) : Option Out :=
retK (O (.call 9) [a0, a1] m []) (fun v0 m1 =>
(aUn .not v0).bind fun v3 =>
br v3 (
retK (O (.call 10) [] m1 []) (fun v4 m5 =>
some ⟨.ret, [v4], m5, []⟩) (fun p6 m7 => some ⟨.panic p6, [], m7, []⟩)) (
(aLenS a0).bind fun v8 =>
(aBin .gtr v8 (.int .i64 (2000))).bind fun v9 =>
br v9 (
retK (O (.call 10) [] m1 []) (fun v10 m11 =>
some ⟨.ret, [v10], m11, []⟩) (fun p12 m13 => some ⟨.panic p12, [], m13, []⟩)) (
retK (O (.call 19) [a0, a1] m1 []) (fun v14 m15 =>
(aExtract 0 v14).bind fun v17 =>
(aExtract 1 v14).bind fun v18 =>
(aExtract 2 v14).bind fun v19 =>
(aUn .not v19).bind fun v20 =>
br v20 (
retK (O (.call 10) [] m15 []) (fun v21 m22 =>
some ⟨.ret, [v21], m22, []⟩) (fun p23 m24 => some ⟨.panic p23, [], m24, []⟩)) (
retK (O (.call 22) [v17, a2, a3] m15 []) (fun v25 m26 =>
(aExtract 0 v25).bind fun v28 =>
(aExtract 1 v25).bind fun v29 =>
retK (O (.call 24) [v18, a2, a3] m26 []) (fun v30 m31 =>
(aExtract 0 v30).bind fun v33 =>
(aExtract 1 v30).bind fun v34 =>
retK (O (.call 21) [v17, a2, a3] m31 []) (fun v35 m36 =>
(aExtract 0 v35).bind fun v38 =>
(aExtract 1 v35).bind fun v39 =>
retK (O (.call 25) [v18, a2, a3] m36 []) (fun v40 m41 =>
(aExtract 0 v40).bind fun v43 =>
(aExtract 1 v40).bind fun v44 =>
retK (O (.call 20) [v17, a2] m41 []) (fun v45 m46 =>
(aExtract 0 v45).bind fun v48 =>
(aExtract 1 v45).bind fun v49 =>
(aExtract 2 v45).bind fun v50 =>
retK (O (.call 26) [v18, a2] m46 []) (fun v51 m52 =>
(aExtract 0 v51).bind fun v54 =>
(aExtract 1 v51).bind fun v55 =>
(aExtract 2 v51).bind fun v56 =>
(aBin .neq v28 v33).bind fun v57 =>
br v57 (
some ⟨.ret, [(.bool false)], m52, []⟩) (
(aBin .neq v29 v34).bind fun v58 =>
br v58 (
some ⟨.ret, [(.bool false)], m52, []⟩) (
(aBin .neq v38 v43).bind fun v59 =>
br v59 (
some ⟨.ret, [(.bool false)], m52, []⟩) (
(aBin .neq v39 v44).bind fun v60 =>
br v60 (
some ⟨.ret, [(.bool false)], m52, []⟩) (
(aBin .neq v48 v54).bind fun v61 =>
br v61 (
some ⟨.ret, [(.bool false)], m52, []⟩) (
(aBin .neq v49 v55).bind fun v62 =>
br v62 (
some ⟨.ret, [(.bool false)], m52, []⟩) (
(aBin .neq v50 v56).bind fun v63 =>
br v63 (
some ⟨.ret, [(.bool false)], m52, []⟩) (
retK (O (.call 17) [v18] m52 []) (fun v64 m65 =>
retK (O (.call 23) [v17, a2] m65 []) (fun v67 m68 =>
(aExtract 0 v67).bind fun v70 =>
(aExtract 1 v67).bind fun v71 =>
(aBin .lss a2 (.int .i64 (0))).bind fun v72 =>
br v72 (
(aBin .eql v70 (S [])).bind fun v73 =>
br v73 (
(aBin .eql v71 (.int .i64 (2))).bind fun v74 =>
br v74 (
retK (O (.call 10) [] m68 []) (fun v75 m76 =>
some ⟨.ret, [v75], m76, []⟩) (fun p77 m78 => some ⟨.panic p77, [], m78, []⟩)) (
some ⟨.ret, [(.bool false)], m68, []⟩)) (
some ⟨.ret, [(.bool false)], m68, []⟩)) (
(vLenL v64).bind fun v79 =>
(aBin .geq a2 v79).bind fun v80 =>
br v80 (
(aBin .eql v70 (S [])).bind fun v81 =>
br v81 (
(aBin .eql v71 (.int .i64 (2))).bind fun v82 =>
br v82 (
retK (O (.call 10) [] m68 []) (fun v83 m84 =>
some ⟨.ret, [v83], m84, []⟩) (fun p85 m86 => some ⟨.panic p85, [], m86, []⟩)) (
some ⟨.ret, [(.bool false)], m68, []⟩)) (
some ⟨.ret, [(.bool false)], m68, []⟩)) (
(vIdx 1 v64 a2).bind fun v87 =>
(vLd 1 false v87 m68).bind fun v88 =>
(aBin .eql v70 v88).bind fun v89 =>
br v89 (
(aBin .eql v71 (.int .i64 (0))).bind fun v90 =>
br v90 (
retK (O (.call 10) [] m68 []) (fun v91 m92 =>
some ⟨.ret, [v91], m92, []⟩) (fun p93 m94 => some ⟨.panic p93, [], m94, []⟩)) (
some ⟨.ret, [(.bool false)], m68, []⟩)) (
some ⟨.ret, [(.bool false)], m68, []⟩)))) (fun p69 m95 => some ⟨.panic p69, [], m95, []⟩)) (fun p66 m96 => some ⟨.panic p66, [], m96, []⟩))))))))) (fun p53 m97 => some ⟨.panic p53, [], m97, []⟩)) (fun p47 m98 => some ⟨.panic p47, [], m98, []⟩)) (fun p42 m99 => some ⟨.panic p42, [], m99, []⟩)) (fun p37 m100 => some ⟨.panic p37, [], m100, []⟩)) (fun p32 m101 => some ⟨.panic p32, [], m101, []⟩)) (fun p27 m102 => some ⟨.panic p27, [], m102, []⟩))) (fun p16 m103 => some ⟨.panic p16, [], m103, []⟩)))) (fun p2 m104 => some ⟨.panic p2, [], m104, []⟩)
theorem R8 {a0 a1 a2 a3 : Value} {m : Mem} {r : Out} (h : (x8 (LV CV) a0 a1 a2 a3 ⟨[], m.next, m.next, 0⟩).bind (close m) = some r) (hc : [a0, a1, a2, a3].all (clo FUEL) = true := by simp) : LV CV (.call 8) [a0, a1, a2, a3] m [] = some r := R_callP (C := CV) (fn := ir8) rfl rfl rfl (Nat.le_of_ble_eq_true rfl) hc (x := x8 (LV CV) a0 a1 a2 a3 ⟨[], m.next, m.next, 0⟩) (by kernel_rfl) h
def y900 (O : Orc) (b0 b1 b2 : Value) (m : Mem) : Option Out :=
(vLenL b0).bind fun v0 =>
(aBin .lss b2 v0).bind fun v1 =>
br v1 (
(vIdx 3 b0 b2).bind fun v2 =>
(vFieldAddr 2 v2).bind fun v3 =>
(vLd 1 false v3 m).bind fun v4 =>
(aLenS v4).bind fun v5 =>
(aBin .gtr v5 (.int .i64 (20100))).bind fun v6 =>
br v6 (
some ⟨.ret, [b0, (.bool false), b2], m, []⟩) (
(aBin .add b2 (.int .i64 (1))).bind fun v7 =>
O (.loop 900) [b0, b1, v7] m [])) (
some ⟨.exit 0, [b0, b1, b2], m, []⟩)
theorem Q900 {b0 b1 b2 : Value} {m : Mem} {r : Out} (h : y900 (LV CV) b0 b1 b2 m = some r) : LV CV (.loop 900) [b0, b1, b2] m [] = some r := R_loopV (C := CV) (keep := [1, 4, 5]) (b := lb900) rfl (x := y900 (LV CV) b0 b1 b2 m) (by kernel_rfl) h
/-- noonmark/noonmarklaw03.light -/
def x9 (O : Orc) (a0 a1 : Value) (m : Mem) : Option Out :=
(aLenS a0).bind fun v0 =>
(aBin .gtr v0 (.int .i64 (20100))).bind fun v1 =>
br v1 (
some ⟨.ret, [(.bool false)], m, []⟩) (
(vLenL a1).bind fun v2 =>
(aBin .gtr v2 (.int .i64 (40))).bind fun v3 =>
br v3 (
some ⟨.ret, [(.bool false)], m, []⟩) (
lpN (O (.loop 900) [a1, (.bool false), (.int .i64 (0))] m []) (fun id7 w4 m5 =>
if id7 = 0 then
some ⟨.ret, [(.bool true)], m5, []⟩ else
none) (fun w4 m5 =>
some ⟨.ret, [(w4.getD 1 undef)], m5, []⟩) (fun p8 w4 m5 =>
some ⟨.panic p8, [], m5, []⟩)))
theorem R9 {a0 a1 : Value} {m : Mem} {r : Out} (h : (x9 (LV CV) a0 a1 ⟨[], m.next, m.next, 0⟩).bind (close m) = some r) (hc : [a0, a1].all (clo FUEL) = true := by simp) : LV CV (.call 9) [a0, a1] m [] = some r := R_callP (C := CV) (fn := ir9) rfl rfl rfl (Nat.le_of_ble_eq_true rfl) hc (x := x9 (LV CV) a0 a1 ⟨[], m.next, m.next, 0⟩) (by kernel_rfl) h
/-- noonmark/rope.Make -/
def x11 (O : Orc) (a0 : Value) (m : Mem) : Option Out :=
(aLenS a0).bind fun v0 =>
(aBin .gtr v0 (.int .i64 (20000))).bind fun v1 =>
br v1 (
some ⟨.ret, [.tuple [(.pointer none), (.int .i64 (17))].toArray], m, []⟩) (
retK (O (.call 27) [a0] m []) (fun v2 m3 =>
some ⟨.ret, [.tuple [v2, (.int .i64 (0))].toArray], m3, []⟩) (fun p4 m5 => some ⟨.panic p4, [], m5, []⟩))
theorem R11 {a0 : Value} {m : Mem} {r : Out} (h : (x11 (LV CV) a0 ⟨[], m.next, m.next, 0⟩).bind (close m) = some r) (hc : [a0].all (clo FUEL) = true := by simp) : LV CV (.call 11) [a0] m [] = some r := R_callP (C := CV) (fn := ir11) rfl rfl rfl (Nat.le_of_ble_eq_true rfl) hc (x := x11 (LV CV) a0 ⟨[], m.next, m.next, 0⟩) (by kernel_rfl) h
/-- (*noonmark/rope.Rope).Len -/
def x12 (O : Orc) (a0 : Value) (m : Mem) : Option Out :=
(vIsNil .ptr false a0).bind fun v0 =>
br v0 (
some ⟨.ret, [(.int .i64 (0))], m, []⟩) (
(vCheck a0).bind fun v1 =>
(vFieldAddr 3 v1).bind fun v2 =>
(vLd 1 false v2 m).bind fun v3 =>
some ⟨.ret, [v3], m, []⟩)
theorem R12 {a0 : Value} {m : Mem} {r : Out} (h : (x12 (LV CV) a0 ⟨[], m.next, m.next, 0⟩).bind (close m) = some r) (hc : [a0].all (clo FUEL) = true := by simp) : LV CV (.call 12) [a0] m [] = some r := R_callP (C := CV) (fn := ir12) rfl rfl rfl (Nat.le_of_ble_eq_true rfl) hc (x := x12 (LV CV) a0 ⟨[], m.next, m.next, 0⟩) (by kernel_rfl) h
/-- (*noonmark/rope.Rope).Splice -/
def x13 (O : Orc) (a0 a1 a2 a3 : Value) (m : Mem) : Option Out :=
cutN (
retK (O (.call 28) [a0, a1, a2] m []) (fun v5 m6 =>
(aUn .not v5).bind fun v8 =>
br v8 (
some ⟨.ret, [a0, a1, a2, a3, (.pointer none), (.int .i64 (2))], m6, []⟩) (
(aLenS a3).bind fun v9 =>
(aBin .gtr v9 (.int .i64 (20000))).bind fun v10 =>
br v10 (
br v10 (
some ⟨.ret, [a0, a1, a2, a3, (.pointer none), (.int .i64 (17))], m6, []⟩) (
some ⟨.normal, [a0, a1, a2, a3, (.pointer none), (.int .i64 (0))], m6, []⟩)) (
retK (O (.call 12) [a0] m6 []) (fun v11 m12 =>
(aBin .sub a2 a1).bind fun v14 =>
(aBin .sub v11 v14).bind fun v15 =>
(aLenS a3).bind fun v16 =>
(aBin .sub (.int .i64 (20000)) v16).bind fun v17 =>
(aBin .gtr v15 v17).bind fun v18 =>
br v18 (
some ⟨.ret, [a0, a1, a2, a3, (.pointer none), (.int .i64 (17))], m12, []⟩) (
some ⟨.normal, [a0, a1, a2, a3, (.pointer none), (.int .i64 (0))], m12, []⟩)) (fun p13 m19 => some ⟨.panic p13, [a0, a1, a2, a3, (.pointer none), (.int .i64 (0))], m19, []⟩)))) (fun p7 m20 => some ⟨.panic p7, [a0, a1, a2, a3, (.pointer none), (.int .i64 (0))], m20, []⟩)) (fun w0 m1 =>
retK (O (.call 29) [(w0.getD 0 undef), (w0.getD 1 undef)] m1 []) (fun v21 m22 =>
(aExtract 0 v21).bind fun v24 =>
(aExtract 1 v21).bind fun v25 =>
retK (O (.call 29) [(w0.getD 0 undef), (w0.getD 2 undef)] m22 []) (fun v26 m27 =>
(aExtract 0 v26).bind fun v29 =>
(aExtract 1 v26).bind fun v30 =>
retK (O (.call 27) [(w0.getD 3 undef)] m27 []) (fun v31 m32 =>
retK (O (.call 30) [v24, v31] m32 []) (fun v34 m35 =>
retK (O (.call 30) [v34, v30] m35 []) (fun v37 m38 =>
some ⟨.ret, [.tuple [v37, (.int .i64 (0))].toArray], m38, []⟩) (fun p39 m40 => some ⟨.panic p39, [], m40, []⟩)) (fun p36 m41 => some ⟨.panic p36, [], m41, []⟩)) (fun p33 m42 => some ⟨.panic p33, [], m42, []⟩)) (fun p28 m43 => some ⟨.panic p28, [], m43, []⟩)) (fun p23 m44 => some ⟨.panic p23, [], m44, []⟩)) (fun id3 w0 m1 =>
none) (fun w0 m1 =>
some ⟨.ret, [.tuple [(w0.getD 4 undef), (w0.getD 5 undef)].toArray], m1, []⟩) (fun p4 w0 m1 =>
some ⟨.panic p4, [], m1, []⟩)
theorem R13 {a0 a1 a2 a3 : Value} {m : Mem} {r : Out} (h : (x13 (LV CV) a0 a1 a2 a3 ⟨[], m.next, m.next, 0⟩).bind (close m) = some r) (hc : [a0, a1, a2, a3].all (clo FUEL) = true := by simp) : LV CV (.call 13) [a0, a1, a2, a3] m [] = some r := R_callP (C := CV) (fn := ir13) rfl rfl rfl (Nat.le_of_ble_eq_true rfl) hc (x := x13 (LV CV) a0 a1 a2 a3 ⟨[], m.next, m.next, 0⟩) (by kernel_rfl) h
/-- noonmark/noonmarkref03.Splice -/
def x14 (O : Orc) (a0 a1 a2 a3 : Value) (m : Mem) : Option Out :=
(aBin .lss a1 (.int .i64 (0))).bind fun v0 =>
br v0 (
some ⟨.ret, [.tuple [(S []), (.int .i64 (2))].toArray], m, []⟩) (
(aBin .gtr a1 a2).bind fun v1 =>
br v1 (
some ⟨.ret, [.tuple [(S []), (.int .i64 (2))].toArray], m, []⟩) (
(aLenS a0).bind fun v2 =>
(aBin .gtr a2 v2).bind fun v3 =>
br v3 (
some ⟨.ret, [.tuple [(S []), (.int .i64 (2))].toArray], m, []⟩) (
(aLenS a3).bind fun v4 =>
(aBin .gtr v4 (.int .i64 (20000))).bind fun v5 =>
br v5 (
some ⟨.ret, [.tuple [(S []), (.int .i64 (17))].toArray], m, []⟩) (
(aLenS a0).bind fun v6 =>
(aBin .sub a2 a1).bind fun v7 =>
(aBin .sub v6 v7).bind fun v8 =>
(aLenS a3).bind fun v9 =>
(aBin .sub (.int .i64 (20000)) v9).bind fun v10 =>
(aBin .gtr v8 v10).bind fun v11 =>
br v11 (
some ⟨.ret, [.tuple [(S []), (.int .i64 (17))].toArray], m, []⟩) (
(aCutStr a0 none (some a1)).bind fun v12 =>
(aBin .add v12 a3).bind fun v13 =>
(aCutStr a0 (some a2) none).bind fun v14 =>
(aBin .add v13 v14).bind fun v15 =>
some ⟨.ret, [.tuple [v15, (.int .i64 (0))].toArray], m, []⟩)))))
theorem R14 {a0 a1 a2 a3 : Value} {m : Mem} {r : Out} (h : (x14 (LV CV) a0 a1 a2 a3 ⟨[], m.next, m.next, 0⟩).bind (close m) = some r) (hc : [a0, a1, a2, a3].all (clo FUEL) = true := by simp) : LV CV (.call 14) [a0, a1, a2, a3] m [] = some r := R_callP (C := CV) (fn := ir14) rfl rfl rfl (Nat.le_of_ble_eq_true rfl) hc (x := x14 (LV CV) a0 a1 a2 a3 ⟨[], m.next, m.next, 0⟩) (by kernel_rfl) h
/-- (*noonmark/rope.Rope).Text -/
def x15 (O : Orc) (a0 : Value) (m : Mem) : Option Out :=
letK ((m).push ⟨4294967357, [(.pointer none), (.slice none 0 0)]⟩) fun m0 =>
retK (O (.call 31) [a0, (.pointer (some ⟨(m).next, 0, none⟩))] m0 []) (fun v1 m2 =>
retK (O (.call 32) [(.pointer (some ⟨(m).next, 0, none⟩))] m2 []) (fun v4 m5 =>
some ⟨.ret, [v4], m5, []⟩) (fun p6 m7 => some ⟨.panic p6, [], m7, []⟩)) (fun p3 m8 => some ⟨.panic p3, [], m8, []⟩)
theorem R15 {a0 : Value} {m : Mem} {r : Out} (h : (x15 (LV CV) a0 ⟨[], m.next, m.next, 0⟩).bind (close m) = some r) (hc : [a0].all (clo FUEL) = true := by simp) : LV CV (.call 15) [a0] m [] = some r := R_callP (C := CV) (fn := ir15) rfl rfl rfl (Nat.le_of_ble_eq_true rfl) hc (x := x15 (LV CV) a0 ⟨[], m.next, m.next, 0⟩) (by kernel_rfl) h
/-- (*noonmark/rope.Rope).Lines -/
def x16 (O : Orc) (a0 : Value) (m : Mem) : Option Out :=
retK (O (.call 33) [a0] m []) (fun v0 m1 =>
(aBin .add v0 (.int .i64 (1))).bind fun v3 =>
some ⟨.ret, [v3], m1, []⟩) (fun p2 m4 => some ⟨.panic p2, [], m4, []⟩)
theorem R16 {a0 : Value} {m : Mem} {r : Out} (h : (x16 (LV CV) a0 ⟨[], m.next, m.next, 0⟩).bind (close m) = some r) (hc : [a0].all (clo FUEL) = true := by simp) : LV CV (.call 16) [a0] m [] = some r := R_callP (C := CV) (fn := ir16) rfl rfl rfl (Nat.le_of_ble_eq_true rfl) hc (x := x16 (LV CV) a0 ⟨[], m.next, m.next, 0⟩) (by kernel_rfl) h
def y1700 (O : Orc) (b0 b1 b2 b3 : Value) (m : Mem) : Option Out :=
(aLenS b0).bind fun v0 =>
(aBin .lss b3 v0).bind fun v1 =>
br v1 (
(aByte b0 b3).bind fun v2 =>
(aBin .eql v2 (.int .u8 (10))).bind fun v3 =>
br v3 (
(aCutStr b0 (some b2) (some b3)).bind fun v4 =>
(vLit 1 1 [(S [])] [(0, v4)] m).bind fun r5 =>
(vApp false 1 16 b1 r5.1 r5.2).bind fun r6 =>
(aBin .add b3 (.int .i64 (1))).bind fun v7 =>
(aBin .add b3 (.int .i64 (1))).bind fun v8 =>
O (.loop 1700) [b0, r6.1, v7, v8] r6.2 []) (
(aBin .add b3 (.int .i64 (1))).bind fun v9 =>
O (.loop 1700) [b0, b1, b2, v9] m [])) (
some ⟨.exit 0, [b0, b1, b2, b3], m, []⟩)
theorem Q1700 {b0 b1 b2 b3 : Value} {m : Mem} {r : Out} (h : y1700 (LV CV) b0 b1 b2 b3 m = some r) : LV CV (.loop 1700) [b0, b1, b2, b3] m [] = some r := R_loopV (C := CV) (keep := [0, 3, 4, 5]) (b := lb1700) rfl (x := y1700 (LV CV) b0 b1 b2 b3 m) (by kernel_rfl) h
/-- noonmark/noonmarkref03.Lines -/
def x17 (O : Orc) (a0 : Value) (m : Mem) : Option Out :=
(vLit 1 0 [(S [])] [] m).bind fun r0 =>
lpN (O (.loop 1700) [a0, r0.1, (.int .i64 (0)), (.int .i64 (0))] r0.2 []) (fun id4 w1 m2 =>
if id4 = 0 then
(aCutStr (w1.getD 0 undef) (some (w1.getD 2 undef)) none).bind fun v6 =>
(vLit 1 1 [(S [])] [(0, v6)] m2).bind fun r7 =>
(vApp false 1 16 (w1.getD 1 undef) r7.1 r7.2).bind fun r8 =>
some ⟨.ret, [r8.1], r8.2, []⟩ else
none) (fun w1 m2 =>
some ⟨.ret, [undef], m2, []⟩) (fun p5 w1 m2 =>
some ⟨.panic p5, [], m2, []⟩)
theorem R17 {a0 : Value} {m : Mem} {r : Out} (h : (x17 (LV CV) a0 ⟨[], m.next, m.next, 0⟩).bind (close m) = some r) (hc : [a0].all (clo FUEL) = true := by simp) : LV CV (.call 17) [a0] m [] = some r := R_callP (C := CV) (fn := ir17) rfl rfl rfl (Nat.le_of_ble_eq_true rfl) hc (x := x17 (LV CV) a0 ⟨[], m.next, m.next, 0⟩) (by kernel_rfl) h
/-- (*noonmark/rope.Rope).Height -/
def x18 (O : Orc) (a0 : Value) (m : Mem) : Option Out :=
(vIsNil .ptr false a0).bind fun v0 =>
br v0 (
some ⟨.ret, [(.int .i64 (0))], m, []⟩) (
(vCheck a0).bind fun v1 =>
(vFieldAddr 5 v1).bind fun v2 =>
(vLd 1 false v2 m).bind fun v3 =>
some ⟨.ret, [v3], m, []⟩)
theorem R18 {a0 : Value} {m : Mem} {r : Out} (h : (x18 (LV CV) a0 ⟨[], m.next, m.next, 0⟩).bind (close m) = some r) (hc : [a0].all (clo FUEL) = true := by simp) : LV CV (.call 18) [a0] m [] = some r := R_callP (C := CV) (fn := ir18) rfl rfl rfl (Nat.le_of_ble_eq_true rfl) hc (x := x18 (LV CV) a0 ⟨[], m.next, m.next, 0⟩) (by kernel_rfl) h
def y1900 (O : Orc) (b0 b1 b2 b3 : Value) (m : Mem) : Option Out :=
(vLenL b1).bind fun v0 =>
(aBin .lss b3 v0).bind fun v1 =>
br v1 (
(vIdx 3 b1 b3).bind fun v2 =>
(vFieldAddr 0 v2).bind fun v3 =>
(vLd 1 false v3 m).bind fun v4 =>
(vIdx 3 b1 b3).bind fun v5 =>
(vFieldAddr 1 v5).bind fun v6 =>
(vLd 1 false v6 m).bind fun v7 =>
(vIdx 3 b1 b3).bind fun v8 =>
(vFieldAddr 2 v8).bind fun v9 =>
(vLd 1 false v9 m).bind fun v10 =>
retK (O (.call 13) [b2, v4, v7, v10] m []) (fun v11 m12 =>
(aExtract 0 v11).bind fun v14 =>
(aExtract 1 v11).bind fun v15 =>
(vIdx 3 b1 b3).bind fun v16 =>
(vFieldAddr 0 v16).bind fun v17 =>
(vLd 1 false v17 m12).bind fun v18 =>
(vIdx 3 b1 b3).bind fun v19 =>
(vFieldAddr 1 v19).bind fun v20 =>
(vLd 1 false v20 m12).bind fun v21 =>
(vIdx 3 b1 b3).bind fun v22 =>
(vFieldAddr 2 v22).bind fun v23 =>
(vLd 1 false v23 m12).bind fun v24 =>
retK (O (.call 14) [b0, v18, v21, v24] m12 []) (fun v25 m26 =>
(aExtract 0 v25).bind fun v28 =>
(aExtract 1 v25).bind fun v29 =>
(aBin .eql v15 (.int .i64 (0))).bind fun v30 =>
br v30 (
(aBin .add b3 (.int .i64 (1))).bind fun v31 =>
O (.loop 1900) [v28, b1, v14, v31] m26 []) (
(aBin .add b3 (.int .i64 (1))).bind fun v32 =>
O (.loop 1900) [b0, b1, b2, v32] m26 [])) (fun p27 m33 => some ⟨.panic p27, [b0, b1, b2, b3], m33, []⟩)) (fun p13 m34 => some ⟨.panic p13, [b0, b1, b2, b3], m34, []⟩)) (
some ⟨.exit 0, [b0, b1, b2, b3], m, []⟩)
theorem Q1900 {b0 b1 b2 b3 : Value} {m : Mem} {r : Out} (h : y1900 (LV CV) b0 b1 b2 b3 m = some r) : LV CV (.loop 1900) [b0, b1, b2, b3] m [] = some r := R_loopV (C := CV) (keep := [0, 1, 7, 9]) (b := lb1900) rfl (x := y1900 (LV CV) b0 b1 b2 b3 m) (by kernel_rfl) h
/-- noonmark/noonmarklaw03.play -/
def x19 (O : Orc) (a0 a1 : Value) (m : Mem) : Option Out :=
retK (O (.call 11) [a0] m []) (fun v0 m1 =>
(aExtract 0 v0).bind fun v3 =>
(aExtract 1 v0).bind fun v4 =>
(aBin .neq v4 (.int .i64 (0))).bind fun v5 =>
br v5 (
some ⟨.ret, [.tuple [(.pointer none), (S []), (.bool false)].toArray], m1, []⟩) (
lpN (O (.loop 1900) [a0, a1, v3, (.int .i64 (0))] m1 []) (fun id9 w6 m7 =>
if id9 = 0 then
some ⟨.ret, [.tuple [(w6.getD 2 undef), (w6.getD 0 undef), (.bool true)].toArray], m7, []⟩ else
none) (fun w6 m7 =>
some ⟨.ret, [.tuple [undef, undef, undef].toArray], m7, []⟩) (fun p10 w6 m7 =>
some ⟨.panic p10, [], m7, []⟩))) (fun p2 m11 => some ⟨.panic p2, [], m11, []⟩)
theorem R19 {a0 a1 : Value} {m : Mem} {r : Out} (h : (x19 (LV CV) a0 a1 ⟨[], m.next, m.next, 0⟩).bind (close m) = some r) (hc : [a0, a1].all (clo FUEL) = true := by simp) : LV CV (.call 19) [a0, a1] m [] = some r := R_callP (C := CV) (fn := ir19) rfl rfl rfl (Nat.le_of_ble_eq_true rfl) hc (x := x19 (LV CV) a0 a1 ⟨[], m.next, m.next, 0⟩) (by kernel_rfl) h
/-- (*noonmark/rope.Rope).Place -/
def x20 (O : Orc) (a0 a1 : Value) (m : Mem) : Option Out :=
(aBin .lss a1 (.int .i64 (0))).bind fun v0 =>
br v0 (
some ⟨.ret, [.tuple [(.int .i64 (0)), (.int .i64 (0)), (.int .i64 (2))].toArray], m, []⟩) (
retK (O (.call 12) [a0] m []) (fun v1 m2 =>
(aBin .gtr a1 v1).bind fun v4 =>
br v4 (
some ⟨.ret, [.tuple [(.int .i64 (0)), (.int .i64 (0)), (.int .i64 (2))].toArray], m2, []⟩) (
retK (O (.call 34) [a0, (.func (.func 12) #[] #[]), a1] m2 []) (fun v5 m6 =>
(aExtract 0 v5).bind fun v8 =>
(aExtract 1 v5).bind fun v9 =>
(aExtract 2 v5).bind fun v10 =>
(vIsNil .ptr true v8).bind fun v11 =>
br v11 (
(vCheck v8).bind fun v12 =>
(vFieldAddr 0 v12).bind fun v13 =>
(vLd 1 false v13 m6).bind fun v14 =>
(aBin .sub a1 v9).bind fun v15 =>
(aCutStr v14 none (some v15)).bind fun v16 =>
retK (O (.call 35) [v16, (S [10])] m6 []) (fun v17 m18 =>
(aBin .add v10 v17).bind fun v20 =>
retK (O (.call 36) [a0, v20] m18 []) (fun v21 m22 =>
(aBin .sub a1 v21).bind fun v24 =>
some ⟨.ret, [.tuple [v20, v24, (.int .i64 (0))].toArray], m22, []⟩) (fun p23 m25 => some ⟨.panic p23, [], m25, []⟩)) (fun p19 m26 => some ⟨.panic p19, [], m26, []⟩)) (
retK (O (.call 36) [a0, v10] m6 []) (fun v27 m28 =>
(aBin .sub a1 v27).bind fun v30 =>
some ⟨.ret, [.tuple [v10, v30, (.int .i64 (0))].toArray], m28, []⟩) (fun p29 m31 => some ⟨.panic p29, [], m31, []⟩))) (fun p7 m32 => some ⟨.panic p7, [], m32, []⟩))) (fun p3 m33 => some ⟨.panic p3, [], m33, []⟩))
theorem R20 {a0 a1 : Value} {m : Mem} {r : Out} (h : (x20 (LV CV) a0 a1 ⟨[], m.next, m.next, 0⟩).bind (close m) = some r) (hc : [a0, a1].all (clo FUEL) = true := by simp) : LV CV (.call 20) [a0, a1] m [] = some r := R_callP (C := CV) (fn := ir20) rfl rfl rfl (Nat.le_of_ble_eq_true rfl) hc (x := x20 (LV CV) a0 a1 ⟨[], m.next, m.next, 0⟩) (by kernel_rfl) h
/-- (*noonmark/rope.Rope).Offset -/
def x21 (O : Orc) (a0 a1 a2 : Value) (m : Mem) : Option Out :=
(aBin .lss a1 (.int .i64 (0))).bind fun v0 =>
br v0 (
some ⟨.ret, [.tuple [(.int .i64 (0)), (.int .i64 (2))].toArray], m, []⟩) (
retK (O (.call 16) [a0] m []) (fun v1 m2 =>
(aBin .geq a1 v1).bind fun v4 =>
br v4 (
some ⟨.ret, [.tuple [(.int .i64 (0)), (.int .i64 (2))].toArray], m2, []⟩) (
(aBin .lss a2 (.int .i64 (0))).bind fun v5 =>
br v5 (
some ⟨.ret, [.tuple [(.int .i64 (0)), (.int .i64 (2))].toArray], m2, []⟩) (
retK (O (.call 36) [a0, a1] m2 []) (fun v6 m7 =>
retK (O (.call 37) [a0, a1] m7 []) (fun v9 m10 =>
(aBin .sub v9 v6).bind fun v12 =>
(aBin .gtr a2 v12).bind fun v13 =>
br v13 (
some ⟨.ret, [.tuple [(.int .i64 (0)), (.int .i64 (2))].toArray], m10, []⟩) (
(aBin .add v6 a2).bind fun v14 =>
some ⟨.ret, [.tuple [v14, (.int .i64 (0))].toArray], m10, []⟩)) (fun p11 m15 => some ⟨.panic p11, [], m15, []⟩)) (fun p8 m16 => some ⟨.panic p8, [], m16, []⟩)))) (fun p3 m17 => some ⟨.panic p3, [], m17, []⟩))
theorem R21 {a0 a1 a2 : Value} {m : Mem} {r : Out} (h : (x21 (LV CV) a0 a1 a2 ⟨[], m.next, m.next, 0⟩).bind (close m) = some r) (hc : [a0, a1, a2].all (clo FUEL) = true := by simp) : LV CV (.call 21) [a0, a1, a2] m [] = some r := R_callP (C := CV) (fn := ir21) rfl rfl rfl (Nat.le_of_ble_eq_true rfl) hc (x := x21 (LV CV) a0 a1 a2 ⟨[], m.next, m.next, 0⟩) (by kernel_rfl) h
/-- (*noonmark/rope.Rope).Slice -/
def x22 (O : Orc) (a0 a1 a2 : Value) (m : Mem) : Option Out :=
retK (O (.call 28) [a0, a1, a2] m []) (fun v0 m1 =>
(aUn .not v0).bind fun v3 =>
br v3 (
some ⟨.ret, [.tuple [(S []), (.int .i64 (2))].toArray], m1, []⟩) (
retK (O (.call 29) [a0, a2] m1 []) (fun v4 m5 =>
(aExtract 0 v4).bind fun v7 =>
(aExtract 1 v4).bind fun v8 =>
retK (O (.call 29) [v7, a1] m5 []) (fun v9 m10 =>
(aExtract 0 v9).bind fun v12 =>
(aExtract 1 v9).bind fun v13 =>
retK (O (.call 15) [v13] m10 []) (fun v14 m15 =>
some ⟨.ret, [.tuple [v14, (.int .i64 (0))].toArray], m15, []⟩) (fun p16 m17 => some ⟨.panic p16, [], m17, []⟩)) (fun p11 m18 => some ⟨.panic p11, [], m18, []⟩)) (fun p6 m19 => some ⟨.panic p6, [], m19, []⟩))) (fun p2 m20 => some ⟨.panic p2, [], m20, []⟩)
theorem R22 {a0 a1 a2 : Value} {m : Mem} {r : Out} (h : (x22 (LV CV) a0 a1 a2 ⟨[], m.next, m.next, 0⟩).bind (close m) = some r) (hc : [a0, a1, a2].all (clo FUEL) = true := by simp) : LV CV (.call 22) [a0, a1, a2] m [] = some r := R_callP (C := CV) (fn := ir22) rfl rfl rfl (Nat.le_of_ble_eq_true rfl) hc (x := x22 (LV CV) a0 a1 a2 ⟨[], m.next, m.next, 0⟩) (by kernel_rfl) h
/-- (*noonmark/rope.Rope).Line -/
def x23 (O : Orc) (a0 a1 : Value) (m : Mem) : Option Out :=
(aBin .lss a1 (.int .i64 (0))).bind fun v0 =>
br v0 (
some ⟨.ret, [.tuple [(S []), (.int .i64 (2))].toArray], m, []⟩) (
retK (O (.call 16) [a0] m []) (fun v1 m2 =>
(aBin .geq a1 v1).bind fun v4 =>
br v4 (
some ⟨.ret, [.tuple [(S []), (.int .i64 (2))].toArray], m2, []⟩) (
retK (O (.call 36) [a0, a1] m2 []) (fun v5 m6 =>
retK (O (.call 37) [a0, a1] m6 []) (fun v8 m9 =>
retK (O (.call 22) [a0, v5, v8] m9 []) (fun v11 m12 =>
(aExtract 0 v11).bind fun v14 =>
(aExtract 1 v11).bind fun v15 =>
some ⟨.ret, [.tuple [v14, v15].toArray], m12, []⟩) (fun p13 m16 => some ⟨.panic p13, [], m16, []⟩)) (fun p10 m17 => some ⟨.panic p10, [], m17, []⟩)) (fun p7 m18 => some ⟨.panic p7, [], m18, []⟩))) (fun p3 m19 => some ⟨.panic p3, [], m19, []⟩))
theorem R23 {a0 a1 : Value} {m : Mem} {r : Out} (h : (x23 (LV CV) a0 a1 ⟨[], m.next, m.next, 0⟩).bind (close m) = some r) (hc : [a0, a1].all (clo FUEL) = true := by simp) : LV CV (.call 23) [a0, a1] m [] = some r := R_callP (C := CV) (fn := ir23) rfl rfl rfl (Nat.le_of_ble_eq_true rfl) hc (x := x23 (LV CV) a0 a1 ⟨[], m.next, m.next, 0⟩) (by kernel_rfl) h
/-- noonmark/noonmarkref03.Slice -/
def x24 (O : Orc) (a0 a1 a2 : Value) (m : Mem) : Option Out :=
(aBin .lss a1 (.int .i64 (0))).bind fun v0 =>
br v0 (
some ⟨.ret, [.tuple [(S []), (.int .i64 (2))].toArray], m, []⟩) (
(aBin .gtr a1 a2).bind fun v1 =>
br v1 (
some ⟨.ret, [.tuple [(S []), (.int .i64 (2))].toArray], m, []⟩) (
(aLenS a0).bind fun v2 =>
(aBin .gtr a2 v2).bind fun v3 =>
br v3 (
some ⟨.ret, [.tuple [(S []), (.int .i64 (2))].toArray], m, []⟩) (
(aCutStr a0 (some a1) (some a2)).bind fun v4 =>
some ⟨.ret, [.tuple [v4, (.int .i64 (0))].toArray], m, []⟩)))
theorem R24 {a0 a1 a2 : Value} {m : Mem} {r : Out} (h : (x24 (LV CV) a0 a1 a2 ⟨[], m.next, m.next, 0⟩).bind (close m) = some r) (hc : [a0, a1, a2].all (clo FUEL) = true := by simp) : LV CV (.call 24) [a0, a1, a2] m [] = some r := R_callP (C := CV) (fn := ir24) rfl rfl rfl (Nat.le_of_ble_eq_true rfl) hc (x := x24 (LV CV) a0 a1 a2 ⟨[], m.next, m.next, 0⟩) (by kernel_rfl) h
def y2500 (O : Orc) (b0 b1 b2 b3 b4 : Value) (m : Mem) : Option Out :=
(aBin .lss b4 b0).bind fun v0 =>
br v0 (
(vIdx 1 b2 b4).bind fun v1 =>
(vLd 1 false v1 m).bind fun v2 =>
(aLenS v2).bind fun v3 =>
(aBin .add b3 v3).bind fun v4 =>
(aBin .add v4 (.int .i64 (1))).bind fun v5 =>
(aBin .add b4 (.int .i64 (1))).bind fun v6 =>
O (.loop 2500) [b0, b1, b2, v5, v6] m []) (
some ⟨.exit 0, [b0, b1, b2, b3, b4], m, []⟩)
theorem Q2500 {b0 b1 b2 b3 b4 : Value} {m : Mem} {r : Out} (h : y2500 (LV CV) b0 b1 b2 b3 b4 m = some r) : LV CV (.loop 2500) [b0, b1, b2, b3, b4] m [] = some r := R_loopV (C := CV) (keep := [1, 2, 8, 9, 10]) (b := lb2500) rfl (x := y2500 (LV CV) b0 b1 b2 b3 b4 m) (by kernel_rfl) h
/-- noonmark/noonmarkref03.Offset -/
def x25 (O : Orc) (a0 a1 a2 : Value) (m : Mem) : Option Out :=
retK (O (.call 17) [a0] m []) (fun v0 m1 =>
(aBin .lss a1 (.int .i64 (0))).bind fun v3 =>
br v3 (
some ⟨.ret, [.tuple [(.int .i64 (0)), (.int .i64 (2))].toArray], m1, []⟩) (
(vLenL v0).bind fun v4 =>
(aBin .geq a1 v4).bind fun v5 =>
br v5 (
some ⟨.ret, [.tuple [(.int .i64 (0)), (.int .i64 (2))].toArray], m1, []⟩) (
(aBin .lss a2 (.int .i64 (0))).bind fun v6 =>
br v6 (
some ⟨.ret, [.tuple [(.int .i64 (0)), (.int .i64 (2))].toArray], m1, []⟩) (
(vIdx 1 v0 a1).bind fun v7 =>
(vLd 1 false v7 m1).bind fun v8 =>
(aLenS v8).bind fun v9 =>
(aBin .gtr a2 v9).bind fun v10 =>
br v10 (
some ⟨.ret, [.tuple [(.int .i64 (0)), (.int .i64 (2))].toArray], m1, []⟩) (
lpN (O (.loop 2500) [a1, a2, v0, (.int .i64 (0)), (.int .i64 (0))] m1 []) (fun id14 w11 m12 =>
if id14 = 0 then
(aBin .add (w11.getD 3 undef) (w11.getD 1 undef)).bind fun v16 =>
some ⟨.ret, [.tuple [v16, (.int .i64 (0))].toArray], m12, []⟩ else
none) (fun w11 m12 =>
some ⟨.ret, [.tuple [undef, undef].toArray], m12, []⟩) (fun p15 w11 m12 =>
some ⟨.panic p15, [], m12, []⟩)))))) (fun p2 m17 => some ⟨.panic p2, [], m17, []⟩)
theorem R25 {a0 a1 a2 : Value} {m : Mem} {r : Out} (h : (x25 (LV CV) a0 a1 a2 ⟨[], m.next, m.next, 0⟩).bind (close m) = some r) (hc : [a0, a1, a2].all (clo FUEL) = true := by simp) : LV CV (.call 25) [a0, a1, a2] m [] = some r := R_callP (C := CV) (fn := ir25) rfl rfl rfl (Nat.le_of_ble_eq_true rfl) hc (x := x25 (LV CV) a0 a1 a2 ⟨[], m.next, m.next, 0⟩) (by kernel_rfl) h
/-- noonmark/noonmarkref03.Place -/
def x26 (O : Orc) (a0 a1 : Value) (m : Mem) : Option Out :=
(aBin .lss a1 (.int .i64 (0))).bind fun v0 =>
br v0 (
some ⟨.ret, [.tuple [(.int .i64 (0)), (.int .i64 (0)), (.int .i64 (2))].toArray], m, []⟩) (
(aLenS a0).bind fun v1 =>
(aBin .gtr a1 v1).bind fun v2 =>
br v2 (
some ⟨.ret, [.tuple [(.int .i64 (0)), (.int .i64 (0)), (.int .i64 (2))].toArray], m, []⟩) (
(aCutStr a0 none (some a1)).bind fun v3 =>
retK (O (.call 17) [v3] m []) (fun v4 m5 =>
(vLenL v4).bind fun v7 =>
(aBin .sub v7 (.int .i64 (1))).bind fun v8 =>
(vLenL v4).bind fun v9 =>
(aBin .sub v9 (.int .i64 (1))).bind fun v10 =>
(vIdx 1 v4 v10).bind fun v11 =>
(vLd 1 false v11 m5).bind fun v12 =>
(aLenS v12).bind fun v13 =>
some ⟨.ret, [.tuple [v8, v13, (.int .i64 (0))].toArray], m5, []⟩) (fun p6 m14 => some ⟨.panic p6, [], m14, []⟩)))
theorem R26 {a0 a1 : Value} {m : Mem} {r : Out} (h : (x26 (LV CV) a0 a1 ⟨[], m.next, m.next, 0⟩).bind (close m) = some r) (hc : [a0, a1].all (clo FUEL) = true := by simp) : LV CV (.call 26) [a0, a1] m [] = some r := R_callP (C := CV) (fn := ir26) rfl rfl rfl (Nat.le_of_ble_eq_true rfl) hc (x := x26 (LV CV) a0 a1 ⟨[], m.next, m.next, 0⟩) (by kernel_rfl) h
/-- noonmark/rope.of -/
def x27 (O : Orc) (a0 : Value) (m : Mem) : Option Out :=
(aLenS a0).bind fun v0 =>
(aBin .leq v0 (.int .i64 (64))).bind fun v1 =>
br v1 (
retK (O (.call 38) [a0] m []) (fun v2 m3 =>
some ⟨.ret, [v2], m3, []⟩) (fun p4 m5 => some ⟨.panic p4, [], m5, []⟩)) (
(aLenS a0).bind fun v6 =>
(aBin .quo v6 (.int .i64 (2))).bind fun v7 =>
(aCutStr a0 none (some v7)).bind fun v8 =>
retK (O (.call 27) [v8] ((m).floor (m).next) []) (fun v9 m10 =>
(aCutStr a0 (some v7) none).bind fun v12 =>
retK (O (.call 27) [v12] (((m10.floor (m).lo)).floor ((m10.floor (m).lo)).next) []) (fun v13 m14 =>
retK (O (.call 30) [v9, v13] (((m14.floor ((m10.floor (m).lo)).lo)).floor ((m14.floor ((m10.floor (m).lo)).lo)).next) []) (fun v16 m17 =>
some ⟨.ret, [v16], (m17.floor ((m14.floor ((m10.floor (m).lo)).lo)).lo), []⟩) (fun p18 m19 => none)) (fun p15 m20 => none)) (fun p11 m21 => none))
theorem R27 {a0 : Value} {m : Mem} {r : Out} (h : (x27 (LV CV) a0 ⟨[], m.next, m.next, 0⟩).bind (close m) = some r) (hc : [a0].all (clo FUEL) = true := by simp) : LV CV (.call 27) [a0] m [] = some r := R_callP (C := CV) (fn := ir27) rfl rfl rfl (Nat.le_of_ble_eq_true rfl) hc (x := x27 (LV CV) a0 ⟨[], m.next, m.next, 0⟩) (by kernel_rfl) h
/-- (*noonmark/rope.Rope).inside -/
def x28 (O : Orc) (a0 a1 a2 : Value) (m : Mem) : Option Out :=
(aBin .geq a1 (.int .i64 (0))).bind fun v0 =>
br v0 (
(aBin .leq a1 a2).bind fun v1 =>
br v1 (
retK (O (.call 12) [a0] m []) (fun v2 m3 =>
(aBin .leq a2 v2).bind fun v5 =>
some ⟨.ret, [v5], m3, []⟩) (fun p4 m6 => some ⟨.panic p4, [], m6, []⟩)) (
some ⟨.ret, [(.bool false)], m, []⟩)) (
some ⟨.ret, [(.bool false)], m, []⟩)
theorem R28 {a0 a1 a2 : Value} {m : Mem} {r : Out} (h : (x28 (LV CV) a0 a1 a2 ⟨[], m.next, m.next, 0⟩).bind (close m) = some r) (hc : [a0, a1, a2].all (clo FUEL) = true := by simp) : LV CV (.call 28) [a0, a1, a2] m [] = some r := R_callP (C := CV) (fn := ir28) rfl rfl rfl (Nat.le_of_ble_eq_true rfl) hc (x := x28 (LV CV) a0 a1 a2 ⟨[], m.next, m.next, 0⟩) (by kernel_rfl) h
/-- (*noonmark/rope.Rope).cut -/
def x29 (O : Orc) (a0 a1 : Value) (m : Mem) : Option Out :=
(vIsNil .ptr false a0).bind fun v0 =>
br v0 (
some ⟨.ret, [.tuple [(.pointer none), a0].toArray], m, []⟩) (
(aBin .leq a1 (.int .i64 (0))).bind fun v1 =>
br v1 (
some ⟨.ret, [.tuple [(.pointer none), a0].toArray], m, []⟩) (
(vCheck a0).bind fun v2 =>
(vFieldAddr 3 v2).bind fun v3 =>
(vLd 1 false v3 m).bind fun v4 =>
(aBin .geq a1 v4).bind fun v5 =>
br v5 (
some ⟨.ret, [.tuple [a0, (.pointer none)].toArray], m, []⟩) (
(vCheck a0).bind fun v6 =>
(vFieldAddr 5 v6).bind fun v7 =>
(vLd 1 false v7 m).bind fun v8 =>
(aBin .eql v8 (.int .i64 (1))).bind fun v9 =>
br v9 (
(vCheck a0).bind fun v10 =>
(vFieldAddr 0 v10).bind fun v11 =>
(vLd 1 false v11 m).bind fun v12 =>
(aCutStr v12 none (some a1)).bind fun v13 =>
retK (O (.call 38) [v13] ((m).floor (m).next) []) (fun v14 m15 =>
(vCheck a0).bind fun v17 =>
(vFieldAddr 0 v17).bind fun v18 =>
(vLd 1 false v18 (m15.floor (m).lo)).bind fun v19 =>
(aCutStr v19 (some a1) none).bind fun v20 =>
retK (O (.call 38) [v20] (((m15.floor (m).lo)).floor ((m15.floor (m).lo)).next) []) (fun v21 m22 =>
some ⟨.ret, [.tuple [v14, v21].toArray], (m22.floor ((m15.floor (m).lo)).lo), []⟩) (fun p23 m24 => none)) (fun p16 m25 => none)) (
(vCheck a0).bind fun v26 =>
(vFieldAddr 1 v26).bind fun v27 =>
(vLd 1 false v27 m).bind fun v28 =>
retK (O (.call 12) [v28] m []) (fun v29 m30 =>
(aBin .lss a1 v29).bind fun v32 =>
br v32 (
(vCheck a0).bind fun v33 =>
(vFieldAddr 1 v33).bind fun v34 =>
(vLd 1 false v34 m30).bind fun v35 =>
retK (O (.call 29) [v35, a1] m30 []) (fun v36 m37 =>
(aExtract 0 v36).bind fun v39 =>
(aExtract 1 v36).bind fun v40 =>
(vCheck a0).bind fun v41 =>
(vFieldAddr 2 v41).bind fun v42 =>
(vLd 1 false v42 m37).bind fun v43 =>
retK (O (.call 30) [v40, v43] m37 []) (fun v44 m45 =>
some ⟨.ret, [.tuple [v39, v44].toArray], m45, []⟩) (fun p46 m47 => some ⟨.panic p46, [], m47, []⟩)) (fun p38 m48 => some ⟨.panic p38, [], m48, []⟩)) (
(vCheck a0).bind fun v49 =>
(vFieldAddr 2 v49).bind fun v50 =>
(vLd 1 false v50 m30).bind fun v51 =>
(aBin .sub a1 v29).bind fun v52 =>
retK (O (.call 29) [v51, v52] m30 []) (fun v53 m54 =>
(aExtract 0 v53).bind fun v56 =>
(aExtract 1 v53).bind fun v57 =>
(vCheck a0).bind fun v58 =>
(vFieldAddr 1 v58).bind fun v59 =>
(vLd 1 false v59 m54).bind fun v60 =>
retK (O (.call 30) [v60, v56] m54 []) (fun v61 m62 =>
some ⟨.ret, [.tuple [v61, v57].toArray], m62, []⟩) (fun p63 m64 => some ⟨.panic p63, [], m64, []⟩)) (fun p55 m65 => some ⟨.panic p55, [], m65, []⟩))) (fun p31 m66 => some ⟨.panic p31, [], m66, []⟩)))))
theorem R29 {a0 a1 : Value} {m : Mem} {r : Out} (h : (x29 (LV CV) a0 a1 ⟨[], m.next, m.next, 0⟩).bind (close m) = some r) (hc : [a0, a1].all (clo FUEL) = true := by simp) : LV CV (.call 29) [a0, a1] m [] = some r := R_callP (C := CV) (fn := ir29) rfl rfl rfl (Nat.le_of_ble_eq_true rfl) hc (x := x29 (LV CV) a0 a1 ⟨[], m.next, m.next, 0⟩) (by kernel_rfl) h
/-- noonmark/rope.join -/
def x30 (O : Orc) (a0 a1 : Value) (m : Mem) : Option Out :=
(vIsNil .ptr false a0).bind fun v0 =>
br v0 (
some ⟨.ret, [a1], m, []⟩) (
(vIsNil .ptr false a1).bind fun v1 =>
br v1 (
some ⟨.ret, [a0], m, []⟩) (
(vCheck a0).bind fun v2 =>
(vFieldAddr 5 v2).bind fun v3 =>
(vLd 1 false v3 m).bind fun v4 =>
(aBin .eql v4 (.int .i64 (1))).bind fun v5 =>
br v5 (
(vCheck a1).bind fun v6 =>
(vFieldAddr 5 v6).bind fun v7 =>
(vLd 1 false v7 m).bind fun v8 =>
(aBin .eql v8 (.int .i64 (1))).bind fun v9 =>
br v9 (
(vCheck a0).bind fun v10 =>
(vFieldAddr 3 v10).bind fun v11 =>
(vLd 1 false v11 m).bind fun v12 =>
(vCheck a1).bind fun v13 =>
(vFieldAddr 3 v13).bind fun v14 =>
(vLd 1 false v14 m).bind fun v15 =>
(aBin .add v12 v15).bind fun v16 =>
(aBin .leq v16 (.int .i64 (64))).bind fun v17 =>
br v17 (
(vCheck a0).bind fun v18 =>
(vFieldAddr 0 v18).bind fun v19 =>
(vLd 1 false v19 m).bind fun v20 =>
(vCheck a1).bind fun v21 =>
(vFieldAddr 0 v21).bind fun v22 =>
(vLd 1 false v22 m).bind fun v23 =>
(aBin .add v20 v23).bind fun v24 =>
retK (O (.call 38) [v24] ((m).floor (m).next) []) (fun v25 m26 =>
some ⟨.ret, [v25], (m26.floor (m).lo), []⟩) (fun p27 m28 => none)) (
(vCheck a0).bind fun v29 =>
(vFieldAddr 5 v29).bind fun v30 =>
(vLd 1 false v30 m).bind fun v31 =>
(vCheck a1).bind fun v32 =>
(vFieldAddr 5 v32).bind fun v33 =>
(vLd 1 false v33 m).bind fun v34 =>
(aBin .add v34 (.int .i64 (1))).bind fun v35 =>
(aBin .gtr v31 v35).bind fun v36 =>
br v36 (
(vCheck a0).bind fun v37 =>
(vFieldAddr 1 v37).bind fun v38 =>
(vLd 1 false v38 m).bind fun v39 =>
(vCheck a0).bind fun v40 =>
(vFieldAddr 2 v40).bind fun v41 =>
(vLd 1 false v41 m).bind fun v42 =>
retK (O (.call 30) [v42, a1] ((m).floor (m).next) []) (fun v43 m44 =>
retK (O (.call 39) [v39, v43] (((m44.floor (m).lo)).floor ((m44.floor (m).lo)).next) []) (fun v46 m47 =>
some ⟨.ret, [v46], (m47.floor ((m44.floor (m).lo)).lo), []⟩) (fun p48 m49 => none)) (fun p45 m50 => none)) (
(vCheck a1).bind fun v51 =>
(vFieldAddr 5 v51).bind fun v52 =>
(vLd 1 false v52 m).bind fun v53 =>
(vCheck a0).bind fun v54 =>
(vFieldAddr 5 v54).bind fun v55 =>
(vLd 1 false v55 m).bind fun v56 =>
(aBin .add v56 (.int .i64 (1))).bind fun v57 =>
(aBin .gtr v53 v57).bind fun v58 =>
br v58 (
(vCheck a1).bind fun v59 =>
(vFieldAddr 1 v59).bind fun v60 =>
(vLd 1 false v60 m).bind fun v61 =>
retK (O (.call 30) [a0, v61] ((m).floor (m).next) []) (fun v62 m63 =>
(vCheck a1).bind fun v65 =>
(vFieldAddr 2 v65).bind fun v66 =>
(vLd 1 false v66 (m63.floor (m).lo)).bind fun v67 =>
retK (O (.call 39) [v62, v67] (((m63.floor (m).lo)).floor ((m63.floor (m).lo)).next) []) (fun v68 m69 =>
some ⟨.ret, [v68], (m69.floor ((m63.floor (m).lo)).lo), []⟩) (fun p70 m71 => none)) (fun p64 m72 => none)) (
retK (O (.call 40) [a0, a1] m []) (fun v73 m74 =>
some ⟨.ret, [v73], m74, []⟩) (fun p75 m76 => some ⟨.panic p75, [], m76, []⟩))))) (
(vCheck a0).bind fun v77 =>
(vFieldAddr 5 v77).bind fun v78 =>
(vLd 1 false v78 m).bind fun v79 =>
(vCheck a1).bind fun v80 =>
(vFieldAddr 5 v80).bind fun v81 =>
(vLd 1 false v81 m).bind fun v82 =>
(aBin .add v82 (.int .i64 (1))).bind fun v83 =>
(aBin .gtr v79 v83).bind fun v84 =>
br v84 (
(vCheck a0).bind fun v85 =>
(vFieldAddr 1 v85).bind fun v86 =>
(vLd 1 false v86 m).bind fun v87 =>
(vCheck a0).bind fun v88 =>
(vFieldAddr 2 v88).bind fun v89 =>
(vLd 1 false v89 m).bind fun v90 =>
retK (O (.call 30) [v90, a1] ((m).floor (m).next) []) (fun v91 m92 =>
retK (O (.call 39) [v87, v91] (((m92.floor (m).lo)).floor ((m92.floor (m).lo)).next) []) (fun v94 m95 =>
some ⟨.ret, [v94], (m95.floor ((m92.floor (m).lo)).lo), []⟩) (fun p96 m97 => none)) (fun p93 m98 => none)) (
(vCheck a1).bind fun v99 =>
(vFieldAddr 5 v99).bind fun v100 =>
(vLd 1 false v100 m).bind fun v101 =>
(vCheck a0).bind fun v102 =>
(vFieldAddr 5 v102).bind fun v103 =>
(vLd 1 false v103 m).bind fun v104 =>
(aBin .add v104 (.int .i64 (1))).bind fun v105 =>
(aBin .gtr v101 v105).bind fun v106 =>
br v106 (
(vCheck a1).bind fun v107 =>
(vFieldAddr 1 v107).bind fun v108 =>
(vLd 1 false v108 m).bind fun v109 =>
retK (O (.call 30) [a0, v109] ((m).floor (m).next) []) (fun v110 m111 =>
(vCheck a1).bind fun v113 =>
(vFieldAddr 2 v113).bind fun v114 =>
(vLd 1 false v114 (m111.floor (m).lo)).bind fun v115 =>
retK (O (.call 39) [v110, v115] (((m111.floor (m).lo)).floor ((m111.floor (m).lo)).next) []) (fun v116 m117 =>
some ⟨.ret, [v116], (m117.floor ((m111.floor (m).lo)).lo), []⟩) (fun p118 m119 => none)) (fun p112 m120 => none)) (
retK (O (.call 40) [a0, a1] m []) (fun v121 m122 =>
some ⟨.ret, [v121], m122, []⟩) (fun p123 m124 => some ⟨.panic p123, [], m124, []⟩))))) (
(vCheck a0).bind fun v125 =>
(vFieldAddr 5 v125).bind fun v126 =>
(vLd 1 false v126 m).bind fun v127 =>
(vCheck a1).bind fun v128 =>
(vFieldAddr 5 v128).bind fun v129 =>
(vLd 1 false v129 m).bind fun v130 =>
(aBin .add v130 (.int .i64 (1))).bind fun v131 =>
(aBin .gtr v127 v131).bind fun v132 =>
br v132 (
(vCheck a0).bind fun v133 =>
(vFieldAddr 1 v133).bind fun v134 =>
(vLd 1 false v134 m).bind fun v135 =>
(vCheck a0).bind fun v136 =>
(vFieldAddr 2 v136).bind fun v137 =>
(vLd 1 false v137 m).bind fun v138 =>
retK (O (.call 30) [v138, a1] ((m).floor (m).next) []) (fun v139 m140 =>
retK (O (.call 39) [v135, v139] (((m140.floor (m).lo)).floor ((m140.floor (m).lo)).next) []) (fun v142 m143 =>
some ⟨.ret, [v142], (m143.floor ((m140.floor (m).lo)).lo), []⟩) (fun p144 m145 => none)) (fun p141 m146 => none)) (
(vCheck a1).bind fun v147 =>
(vFieldAddr 5 v147).bind fun v148 =>
(vLd 1 false v148 m).bind fun v149 =>
(vCheck a0).bind fun v150 =>
(vFieldAddr 5 v150).bind fun v151 =>
(vLd 1 false v151 m).bind fun v152 =>
(aBin .add v152 (.int .i64 (1))).bind fun v153 =>
(aBin .gtr v149 v153).bind fun v154 =>
br v154 (
(vCheck a1).bind fun v155 =>
(vFieldAddr 1 v155).bind fun v156 =>
(vLd 1 false v156 m).bind fun v157 =>
retK (O (.call 30) [a0, v157] ((m).floor (m).next) []) (fun v158 m159 =>
(vCheck a1).bind fun v161 =>
(vFieldAddr 2 v161).bind fun v162 =>
(vLd 1 false v162 (m159.floor (m).lo)).bind fun v163 =>
retK (O (.call 39) [v158, v163] (((m159.floor (m).lo)).floor ((m159.floor (m).lo)).next) []) (fun v164 m165 =>
some ⟨.ret, [v164], (m165.floor ((m159.floor (m).lo)).lo), []⟩) (fun p166 m167 => none)) (fun p160 m168 => none)) (
retK (O (.call 40) [a0, a1] m []) (fun v169 m170 =>
some ⟨.ret, [v169], m170, []⟩) (fun p171 m172 => some ⟨.panic p171, [], m172, []⟩))))))
theorem R30 {a0 a1 : Value} {m : Mem} {r : Out} (h : (x30 (LV CV) a0 a1 ⟨[], m.next, m.next, 0⟩).bind (close m) = some r) (hc : [a0, a1].all (clo FUEL) = true := by simp) : LV CV (.call 30) [a0, a1] m [] = some r := R_callP (C := CV) (fn := ir30) rfl rfl rfl (Nat.le_of_ble_eq_true rfl) hc (x := x30 (LV CV) a0 a1 ⟨[], m.next, m.next, 0⟩) (by kernel_rfl) h
def y3100 (O : Orc) (b0 b1 b2 : Value) (m : Mem) : Option Out :=
(aBin .lss b2 (.int .i64 (2))).bind fun v0 =>
br v0 (
(aElem false 2 1 b1 b2).bind fun v1 =>
retK (O (.call 31) [v1, b0] m []) (fun v2 m3 =>
(aBin .add b2 (.int .i64 (1))).bind fun v5 =>
O (.loop 3100) [b0, b1, v5] m3 []) (fun p4 m6 => some ⟨.panic p4, [b0, b1, b2], m6, []⟩)) (
some ⟨.exit 0, [b0, b1, b2], m, []⟩)
theorem Q3100 {b0 b1 b2 : Value} {m : Mem} {r : Out} (h : y3100 (LV CV) b0 b1 b2 m = some r) : LV CV (.loop 3100) [b0, b1, b2] m [] = some r := R_loopV (C := CV) (keep := [1, 22, 23]) (b := lb3100) rfl (x := y3100 (LV CV) b0 b1 b2 m) (by kernel_rfl) h
/-- (*noonmark/rope.Rope).write -/
def x31 (O : Orc) (a0 a1 : Value) (m : Mem) : Option Out :=
(vIsNil .ptr false a0).bind fun v0 =>
br v0 (
some ⟨.ret, [.tuple [].toArray], m, []⟩) (
(vCheck a0).bind fun v1 =>
(vFieldAddr 0 v1).bind fun v2 =>
(vLd 1 false v2 m).bind fun v3 =>
retK (O (.call 41) [a1, v3] m []) (fun v4 m5 =>
(vCheck a0).bind fun v7 =>
(vFieldAddr 1 v7).bind fun v8 =>
(vLd 1 false v8 m5).bind fun v9 =>
(vCheck a0).bind fun v10 =>
(vFieldAddr 2 v10).bind fun v11 =>
(vLd 1 false v11 m5).bind fun v12 =>
(aBuild [(0, 1), (1, 1)] [(.pointer none), (.pointer none)] [(0, v9), (1, v12)]).bind fun v13 =>
lpN (O (.loop 3100) [a1, v13, (.int .i64 (0))] m5 []) (fun id17 w14 m15 =>
if id17 = 0 then
some ⟨.ret, [.tuple [].toArray], m15, []⟩ else
none) (fun w14 m15 =>
some ⟨.ret, [.tuple [].toArray], m15, []⟩) (fun p18 w14 m15 =>
some ⟨.panic p18, [], m15, []⟩)) (fun p6 m19 => some ⟨.panic p6, [], m19, []⟩))
theorem R31 {a0 a1 : Value} {m : Mem} {r : Out} (h : x31 (LV CV) a0 a1 m = some r) : LV CV (.call 31) [a0, a1] m [] = some r := R_callV (C := CV) (fn := ir31) rfl rfl rfl (Nat.le_of_ble_eq_true rfl) (x := x31 (LV CV) a0 a1 m) (by kernel_rfl) h
/-- (*strings.Builder).String -/
def x32 (O : Orc) (a0 : Value) (m : Mem) : Option Out :=
(vCheck a0).bind fun v0 =>
(vFieldAddr 1 v0).bind fun v1 =>
(vLd 1 false v1 m).bind fun v2 =>
(aSData v2).bind fun v3 =>
(vCheck a0).bind fun v4 =>
(vFieldAddr 1 v4).bind fun v5 =>
(vLd 1 false v5 m).bind fun v6 =>
(vLenL v6).bind fun v7 =>
(aUStr v3 v7 m).bind fun r8 =>
some ⟨.ret, [r8.1], r8.2, []⟩
theorem R32 {a0 : Value} {m : Mem} {r : Out} (h : x32 (LV CV) a0 m = some r) : LV CV (.call 32) [a0] m [] = some r := R_callV (C := CV) (fn := ir32) rfl rfl rfl (Nat.le_of_ble_eq_true rfl) (x := x32 (LV CV) a0 m) (by kernel_rfl) h
/-- (*noonmark/rope.Rope).lineFeeds -/
def x33 (O : Orc) (a0 : Value) (m : Mem) : Option Out :=
(vIsNil .ptr false a0).bind fun v0 =>
br v0 (
some ⟨.ret, [(.int .i64 (0))], m, []⟩) (
(vCheck a0).bind fun v1 =>
(vFieldAddr 4 v1).bind fun v2 =>
(vLd 1 false v2 m).bind fun v3 =>
some ⟨.ret, [v3], m, []⟩)
theorem R33 {a0 : Value} {m : Mem} {r : Out} (h : (x33 (LV CV) a0 ⟨[], m.next, m.next, 0⟩).bind (close m) = some r) (hc : [a0].all (clo FUEL) = true := by simp) : LV CV (.call 33) [a0] m [] = some r := R_callP (C := CV) (fn := ir33) rfl rfl rfl (Nat.le_of_ble_eq_true rfl) hc (x := x33 (LV CV) a0 ⟨[], m.next, m.next, 0⟩) (by kernel_rfl) h
def y3400 (O : Orc) (b0 b1 b2 b3 b4 : Value) (m : Mem) : Option Out :=
(vIsNil .ptr true b0).bind fun v0 =>
br v0 (
(vCheck b0).bind fun v1 =>
(vFieldAddr 5 v1).bind fun v2 =>
(vLd 1 false v2 m).bind fun v3 =>
(aBin .gtr v3 (.int .i64 (1))).bind fun v4 =>
br v4 (
(vCheck b0).bind fun v5 =>
(vFieldAddr 1 v5).bind fun v6 =>
(vLd 1 false v6 m).bind fun v7 =>
(fn? b1).bind fun c8 => retK (O (.call c8.1) (c8.2.1 ++ [v7] ++ c8.2.2) m []) (fun v9 m10 =>
(aBin .lss b2 v9).bind fun v12 =>
br v12 (
(vCheck b0).bind fun v13 =>
(vFieldAddr 1 v13).bind fun v14 =>
(vLd 1 false v14 m10).bind fun v15 =>
O (.loop 3400) [v15, b1, b2, b3, b4] m10 []) (
(aBin .sub b2 v9).bind fun v16 =>
(vCheck b0).bind fun v17 =>
(vFieldAddr 1 v17).bind fun v18 =>
(vLd 1 false v18 m10).bind fun v19 =>
(vCheck v19).bind fun v20 =>
(vFieldAddr 3 v20).bind fun v21 =>
(vLd 1 false v21 m10).bind fun v22 =>
(aBin .add b3 v22).bind fun v23 =>
(vCheck b0).bind fun v24 =>
(vFieldAddr 1 v24).bind fun v25 =>
(vLd 1 false v25 m10).bind fun v26 =>
(vCheck v26).bind fun v27 =>
(vFieldAddr 4 v27).bind fun v28 =>
(vLd 1 false v28 m10).bind fun v29 =>
(aBin .add b4 v29).bind fun v30 =>
(vCheck b0).bind fun v31 =>
(vFieldAddr 2 v31).bind fun v32 =>
(vLd 1 false v32 m10).bind fun v33 =>
O (.loop 3400) [v33, b1, v16, v23, v30] m10 [])) (fun p11 m34 => some ⟨.panic p11, [b0, b1, b2, b3, b4], m34, []⟩)) (
some ⟨.exit 0, [b0, b1, b2, b3, b4], m, []⟩)) (
some ⟨.exit 0, [b0, b1, b2, b3, b4], m, []⟩)
theorem Q3400 {b0 b1 b2 b3 b4 : Value} {m : Mem} {r : Out} (h : y3400 (LV CV) b0 b1 b2 b3 b4 m = some r) : LV CV (.loop 3400) [b0, b1, b2, b3, b4] m [] = some r := R_loopV (C := CV) (keep := [0, 1, 2, 9, 10]) (b := lb3400) rfl (x := y3400 (LV CV) b0 b1 b2 b3 b4 m) (by kernel_rfl) h
/-- (*noonmark/rope.Rope).down -/
def x34 (O : Orc) (a0 a1 a2 : Value) (m : Mem) : Option Out :=
lpN (O (.loop 3400) [a0, a1, a2, (.int .i64 (0)), (.int .i64 (0))] m []) (fun id3 w0 m1 =>
if id3 = 0 then
some ⟨.ret, [.tuple [(w0.getD 0 undef), (w0.getD 3 undef), (w0.getD 4 undef)].toArray], m1, []⟩ else
none) (fun w0 m1 =>
some ⟨.ret, [.tuple [undef, undef, undef].toArray], m1, []⟩) (fun p4 w0 m1 =>
some ⟨.panic p4, [], m1, []⟩)
theorem R34 {a0 a1 a2 : Value} {m : Mem} {r : Out} (h : (x34 (LV CV) a0 a1 a2 ⟨[], m.next, m.next, 0⟩).bind (close m) = some r) (hc : [a0, a1, a2].all (clo FUEL) = true := by simp) : LV CV (.call 34) [a0, a1, a2] m [] = some r := R_callP (C := CV) (fn := ir34) rfl rfl rfl (Nat.le_of_ble_eq_true rfl) hc (x := x34 (LV CV) a0 a1 a2 ⟨[], m.next, m.next, 0⟩) (by kernel_rfl) h
def y3600 (O : Orc) (b0 b1 b2 b3 b4 : Value) (m : Mem) : Option Out :=
(aBin .lss b4 b3).bind fun v0 =>
br v0 (
(vCheck b0).bind fun v1 =>
(vFieldAddr 0 v1).bind fun v2 =>
(vLd 1 false v2 m).bind fun v3 =>
(aCutStr v3 (some b2) none).bind fun v4 =>
retK (O (.call 45) [v4, (.int .u8 (10))] m []) (fun v5 m6 =>
(aBin .add v5 (.int .i64 (1))).bind fun v8 =>
(aBin .add b2 v8).bind fun v9 =>
(aBin .add b4 (.int .i64 (1))).bind fun v10 =>
O (.loop 3600) [b0, b1, v9, b3, v10] m6 []) (fun p7 m11 => some ⟨.panic p7, [b0, b1, b2, b3, b4], m11, []⟩)) (
some ⟨.exit 0, [b0, b1, b2, b3, b4], m, []⟩)
theorem Q3600 {b0 b1 b2 b3 b4 : Value} {m : Mem} {r : Out} (h : y3600 (LV CV) b0 b1 b2 b3 b4 m = some r) : LV CV (.loop 3600) [b0, b1, b2, b3, b4] m [] = some r := R_loopV (C := CV) (keep := [5, 6, 8, 21, 22]) (b := lb3600) rfl (x := y3600 (LV CV) b0 b1 b2 b3 b4 m) (by kernel_rfl) h
/-- (*noonmark/rope.Rope).begin -/
def x36 (O : Orc) (a0 a1 : Value) (m : Mem) : Option Out :=
(aBin .eql a1 (.int .i64 (0))).bind fun v0 =>
br v0 (
some ⟨.ret, [(.int .i64 (0))], m, []⟩) (
(aBin .sub a1 (.int .i64 (1))).bind fun v1 =>
retK (O (.call 34) [a0, (.func (.func 33) #[] #[]), v1] m []) (fun v2 m3 =>
(aExtract 0 v2).bind fun v5 =>
(aExtract 1 v2).bind fun v6 =>
(aExtract 2 v2).bind fun v7 =>
(aBin .sub a1 v7).bind fun v8 =>
lpN (O (.loop 3600) [v5, v6, (.int .i64 (0)), v8, (.int .i64 (0))] m3 []) (fun id12 w9 m10 =>
if id12 = 0 then
(aBin .add (w9.getD 1 undef) (w9.getD 2 undef)).bind fun v14 =>
some ⟨.ret, [v14], m10, []⟩ else
none) (fun w9 m10 =>
some ⟨.ret, [undef], m10, []⟩) (fun p13 w9 m10 =>
some ⟨.panic p13, [], m10, []⟩)) (fun p4 m15 => some ⟨.panic p4, [], m15, []⟩))
theorem R36 {a0 a1 : Value} {m : Mem} {r : Out} (h : (x36 (LV CV) a0 a1 ⟨[], m.next, m.next, 0⟩).bind (close m) = some r) (hc : [a0, a1].all (clo FUEL) = true := by simp) : LV CV (.call 36) [a0, a1] m [] = some r := R_callP (C := CV) (fn := ir36) rfl rfl rfl (Nat.le_of_ble_eq_true rfl) hc (x := x36 (LV CV) a0 a1 ⟨[], m.next, m.next, 0⟩) (by kernel_rfl) h
/-- (*noonmark/rope.Rope).end -/
def x37 (O : Orc) (a0 a1 : Value) (m : Mem) : Option Out :=
(aBin .add a1 (.int .i64 (1))).bind fun v0 =>
retK (O (.call 16) [a0] m []) (fun v1 m2 =>
(aBin .lss v0 v1).bind fun v4 =>
br v4 (
(aBin .add a1 (.int .i64 (1))).bind fun v5 =>
retK (O (.call 36) [a0, v5] m2 []) (fun v6 m7 =>
(aBin .sub v6 (.int .i64 (1))).bind fun v9 =>
some ⟨.ret, [v9], m7, []⟩) (fun p8 m10 => some ⟨.panic p8, [], m10, []⟩)) (
retK (O (.call 12) [a0] m2 []) (fun v11 m12 =>
some ⟨.ret, [v11], m12, []⟩) (fun p13 m14 => some ⟨.panic p13, [], m14, []⟩))) (fun p3 m15 => some ⟨.panic p3, [], m15, []⟩)
theorem R37 {a0 a1 : Value} {m : Mem} {r : Out} (h : (x37 (LV CV) a0 a1 ⟨[], m.next, m.next, 0⟩).bind (close m) = some r) (hc : [a0, a1].all (clo FUEL) = true := by simp) : LV CV (.call 37) [a0, a1] m [] = some r := R_callP (C := CV) (fn := ir37) rfl rfl rfl (Nat.le_of_ble_eq_true rfl) hc (x := x37 (LV CV) a0 a1 ⟨[], m.next, m.next, 0⟩) (by kernel_rfl) h
/-- noonmark/rope.leaf -/
def x38 (O : Orc) (a0 : Value) (m : Mem) : Option Out :=
(aBin .eql a0 (S [])).bind fun v0 =>
br v0 (
some ⟨.ret, [(.pointer none)], m, []⟩) (
(aLenS a0).bind fun v1 =>
retK (O (.call 35) [a0, (S [10])] m []) (fun v2 m3 =>
(aBuild [(0, 1), (1, 1), (2, 1), (3, 1), (4, 1), (5, 1)] [(S []), (.pointer none), (.pointer none), (.int .i64 (0)), (.int .i64 (0)), (.int .i64 (0))] [(0, a0), (3, v1), (4, v2), (5, (.int .i64 (1)))]).bind fun v5 =>
if known v5 = true then letK ((m3).push ⟨0, (Value.cells v5).toList⟩) fun m6 =>
some ⟨.ret, [(.pointer (some ⟨(m3).next, 0, none⟩))], m6, []⟩ else none) (fun p4 m7 => some ⟨.panic p4, [], m7, []⟩))
theorem R38 {a0 : Value} {m : Mem} {r : Out} (h : (x38 (LV CV) a0 ⟨[], m.next, m.next, 0⟩).bind (close m) = some r) (hc : [a0].all (clo FUEL) = true := by simp) : LV CV (.call 38) [a0] m [] = some r := R_callP (C := CV) (fn := ir38) rfl rfl rfl (Nat.le_of_ble_eq_true rfl) hc (x := x38 (LV CV) a0 ⟨[], m.next, m.next, 0⟩) (by kernel_rfl) h
/-- noonmark/rope.level -/
def x39 (O : Orc) (a0 a1 : Value) (m : Mem) : Option Out :=
retK (O (.call 18) [a0] m []) (fun v0 m1 =>
retK (O (.call 18) [a1] m1 []) (fun v3 m4 =>
(aBin .sub v0 v3).bind fun v6 =>
(aBin .gtr v6 (.int .i64 (1))).bind fun v7 =>
br v7 (
(vCheck a0).bind fun v8 =>
(vFieldAddr 1 v8).bind fun v9 =>
(vLd 1 false v9 m4).bind fun v10 =>
retK (O (.call 18) [v10] ((m4).floor (m4).next) []) (fun v11 m12 =>
(vCheck a0).bind fun v14 =>
(vFieldAddr 2 v14).bind fun v15 =>
(vLd 1 false v15 (m12.floor (m4).lo)).bind fun v16 =>
retK (O (.call 18) [v16] (((m12.floor (m4).lo)).floor ((m12.floor (m4).lo)).next) []) (fun v17 m18 =>
(aBin .geq v11 v17).bind fun v20 =>
br v20 (
(vCheck a0).bind fun v21 =>
(vFieldAddr 1 v21).bind fun v22 =>
(vLd 1 false v22 (m18.floor ((m12.floor (m4).lo)).lo)).bind fun v23 =>
(vCheck a0).bind fun v24 =>
(vFieldAddr 2 v24).bind fun v25 =>
(vLd 1 false v25 (m18.floor ((m12.floor (m4).lo)).lo)).bind fun v26 =>
retK (O (.call 40) [v26, a1] (((m18.floor ((m12.floor (m4).lo)).lo)).floor ((m18.floor ((m12.floor (m4).lo)).lo)).next) []) (fun v27 m28 =>
retK (O (.call 40) [v23, v27] (((m28.floor ((m18.floor ((m12.floor (m4).lo)).lo)).lo)).floor ((m28.floor ((m18.floor ((m12.floor (m4).lo)).lo)).lo)).next) []) (fun v30 m31 =>
some ⟨.ret, [v30], (m31.floor ((m28.floor ((m18.floor ((m12.floor (m4).lo)).lo)).lo)).lo), []⟩) (fun p32 m33 => none)) (fun p29 m34 => none)) (
(vCheck a0).bind fun v35 =>
(vFieldAddr 1 v35).bind fun v36 =>
(vLd 1 false v36 (m18.floor ((m12.floor (m4).lo)).lo)).bind fun v37 =>
(vCheck a0).bind fun v38 =>
(vFieldAddr 2 v38).bind fun v39 =>
(vLd 1 false v39 (m18.floor ((m12.floor (m4).lo)).lo)).bind fun v40 =>
(vCheck v40).bind fun v41 =>
(vFieldAddr 1 v41).bind fun v42 =>
(vLd 1 false v42 (m18.floor ((m12.floor (m4).lo)).lo)).bind fun v43 =>
retK (O (.call 40) [v37, v43] (((m18.floor ((m12.floor (m4).lo)).lo)).floor ((m18.floor ((m12.floor (m4).lo)).lo)).next) []) (fun v44 m45 =>
(vCheck a0).bind fun v47 =>
(vFieldAddr 2 v47).bind fun v48 =>
(vLd 1 false v48 (m45.floor ((m18.floor ((m12.floor (m4).lo)).lo)).lo)).bind fun v49 =>
(vCheck v49).bind fun v50 =>
(vFieldAddr 2 v50).bind fun v51 =>
(vLd 1 false v51 (m45.floor ((m18.floor ((m12.floor (m4).lo)).lo)).lo)).bind fun v52 =>
retK (O (.call 40) [v52, a1] (((m45.floor ((m18.floor ((m12.floor (m4).lo)).lo)).lo)).floor ((m45.floor ((m18.floor ((m12.floor (m4).lo)).lo)).lo)).next) []) (fun v53 m54 =>
retK (O (.call 40) [v44, v53] (((m54.floor ((m45.floor ((m18.floor ((m12.floor (m4).lo)).lo)).lo)).lo)).floor ((m54.floor ((m45.floor ((m18.floor ((m12.floor (m4).lo)).lo)).lo)).lo)).next) []) (fun v56 m57 =>
some ⟨.ret, [v56], (m57.floor ((m54.floor ((m45.floor ((m18.floor ((m12.floor (m4).lo)).lo)).lo)).lo)).lo), []⟩) (fun p58 m59 => none)) (fun p55 m60 => none)) (fun p46 m61 => none))) (fun p19 m62 => none)) (fun p13 m63 => none)) (
(aBin .lss v6 (.int .i64 (-1))).bind fun v64 =>
br v64 (
(vCheck a1).bind fun v65 =>
(vFieldAddr 2 v65).bind fun v66 =>
(vLd 1 false v66 m4).bind fun v67 =>
retK (O (.call 18) [v67] ((m4).floor (m4).next) []) (fun v68 m69 =>
(vCheck a1).bind fun v71 =>
(vFieldAddr 1 v71).bind fun v72 =>
(vLd 1 false v72 (m69.floor (m4).lo)).bind fun v73 =>
retK (O (.call 18) [v73] (((m69.floor (m4).lo)).floor ((m69.floor (m4).lo)).next) []) (fun v74 m75 =>
(aBin .geq v68 v74).bind fun v77 =>
br v77 (
(vCheck a1).bind fun v78 =>
(vFieldAddr 1 v78).bind fun v79 =>
(vLd 1 false v79 (m75.floor ((m69.floor (m4).lo)).lo)).bind fun v80 =>
retK (O (.call 40) [a0, v80] (((m75.floor ((m69.floor (m4).lo)).lo)).floor ((m75.floor ((m69.floor (m4).lo)).lo)).next) []) (fun v81 m82 =>
(vCheck a1).bind fun v84 =>
(vFieldAddr 2 v84).bind fun v85 =>
(vLd 1 false v85 (m82.floor ((m75.floor ((m69.floor (m4).lo)).lo)).lo)).bind fun v86 =>
retK (O (.call 40) [v81, v86] (((m82.floor ((m75.floor ((m69.floor (m4).lo)).lo)).lo)).floor ((m82.floor ((m75.floor ((m69.floor (m4).lo)).lo)).lo)).next) []) (fun v87 m88 =>
some ⟨.ret, [v87], (m88.floor ((m82.floor ((m75.floor ((m69.floor (m4).lo)).lo)).lo)).lo), []⟩) (fun p89 m90 => none)) (fun p83 m91 => none)) (
(vCheck a1).bind fun v92 =>
(vFieldAddr 1 v92).bind fun v93 =>
(vLd 1 false v93 (m75.floor ((m69.floor (m4).lo)).lo)).bind fun v94 =>
(vCheck v94).bind fun v95 =>
(vFieldAddr 1 v95).bind fun v96 =>
(vLd 1 false v96 (m75.floor ((m69.floor (m4).lo)).lo)).bind fun v97 =>
retK (O (.call 40) [a0, v97] (((m75.floor ((m69.floor (m4).lo)).lo)).floor ((m75.floor ((m69.floor (m4).lo)).lo)).next) []) (fun v98 m99 =>
(vCheck a1).bind fun v101 =>
(vFieldAddr 1 v101).bind fun v102 =>
(vLd 1 false v102 (m99.floor ((m75.floor ((m69.floor (m4).lo)).lo)).lo)).bind fun v103 =>
(vCheck v103).bind fun v104 =>
(vFieldAddr 2 v104).bind fun v105 =>
(vLd 1 false v105 (m99.floor ((m75.floor ((m69.floor (m4).lo)).lo)).lo)).bind fun v106 =>
(vCheck a1).bind fun v107 =>
(vFieldAddr 2 v107).bind fun v108 =>
(vLd 1 false v108 (m99.floor ((m75.floor ((m69.floor (m4).lo)).lo)).lo)).bind fun v109 =>
retK (O (.call 40) [v106, v109] (((m99.floor ((m75.floor ((m69.floor (m4).lo)).lo)).lo)).floor ((m99.floor ((m75.floor ((m69.floor (m4).lo)).lo)).lo)).next) []) (fun v110 m111 =>
retK (O (.call 40) [v98, v110] (((m111.floor ((m99.floor ((m75.floor ((m69.floor (m4).lo)).lo)).lo)).lo)).floor ((m111.floor ((m99.floor ((m75.floor ((m69.floor (m4).lo)).lo)).lo)).lo)).next) []) (fun v113 m114 =>
some ⟨.ret, [v113], (m114.floor ((m111.floor ((m99.floor ((m75.floor ((m69.floor (m4).lo)).lo)).lo)).lo)).lo), []⟩) (fun p115 m116 => none)) (fun p112 m117 => none)) (fun p100 m118 => none))) (fun p76 m119 => none)) (fun p70 m120 => none)) (
retK (O (.call 40) [a0, a1] m4 []) (fun v121 m122 =>
some ⟨.ret, [v121], m122, []⟩) (fun p123 m124 => some ⟨.panic p123, [], m124, []⟩)))) (fun p5 m125 => some ⟨.panic p5, [], m125, []⟩)) (fun p2 m126 => some ⟨.panic p2, [], m126, []⟩)
theorem R39 {a0 a1 : Value} {m : Mem} {r : Out} (h : (x39 (LV CV) a0 a1 ⟨[], m.next, m.next, 0⟩).bind (close m) = some r) (hc : [a0, a1].all (clo FUEL) = true := by simp) : LV CV (.call 39) [a0, a1] m [] = some r := R_callP (C := CV) (fn := ir39) rfl rfl rfl (Nat.le_of_ble_eq_true rfl) hc (x := x39 (LV CV) a0 a1 ⟨[], m.next, m.next, 0⟩) (by kernel_rfl) h
/-- noonmark/rope.both -/
def x40 (O : Orc) (a0 a1 : Value) (m : Mem) : Option Out :=
retK (O (.call 12) [a0] m []) (fun v0 m1 =>
retK (O (.call 12) [a1] m1 []) (fun v3 m4 =>
(aBin .add v0 v3).bind fun v6 =>
retK (O (.call 33) [a0] m4 []) (fun v7 m8 =>
retK (O (.call 33) [a1] m8 []) (fun v10 m11 =>
(aBin .add v7 v10).bind fun v13 =>
retK (O (.call 18) [a0] m11 []) (fun v14 m15 =>
retK (O (.call 18) [a1] m15 []) (fun v17 m18 =>
(aMax true [v14, v17]).bind fun v20 =>
(aBin .add v20 (.int .i64 (1))).bind fun v21 =>
(aBuild [(0, 1), (1, 1), (2, 1), (3, 1), (4, 1), (5, 1)] [(S []), (.pointer none), (.pointer none), (.int .i64 (0)), (.int .i64 (0)), (.int .i64 (0))] [(1, a0), (2, a1), (3, v6), (4, v13), (5, v21)]).bind fun v22 =>
if known v22 = true then letK ((m18).push ⟨0, (Value.cells v22).toList⟩) fun m23 =>
some ⟨.ret, [(.pointer (some ⟨(m18).next, 0, none⟩))], m23, []⟩ else none) (fun p19 m24 => some ⟨.panic p19, [], m24, []⟩)) (fun p16 m25 => some ⟨.panic p16, [], m25, []⟩)) (fun p12 m26 => some ⟨.panic p12, [], m26, []⟩)) (fun p9 m27 => some ⟨.panic p9, [], m27, []⟩)) (fun p5 m28 => some ⟨.panic p5, [], m28, []⟩)) (fun p2 m29 => some ⟨.panic p2, [], m29, []⟩)
theorem R40 {a0 a1 : Value} {m : Mem} {r : Out} (h : (x40 (LV CV) a0 a1 ⟨[], m.next, m.next, 0⟩).bind (close m) = some r) (hc : [a0, a1].all (clo FUEL) = true := by simp) : LV CV (.call 40) [a0, a1] m [] = some r := R_callP (C := CV) (fn := ir40) rfl rfl rfl (Nat.le_of_ble_eq_true rfl) hc (x := x40 (LV CV) a0 a1 ⟨[], m.next, m.next, 0⟩) (by kernel_rfl) h
/-- (*strings.Builder).WriteString -/
def x41 (O : Orc) (a0 a1 : Value) (m : Mem) : Option Out :=
retK (O (.call 46) [a0] m []) (fun v0 m1 =>
(vCheck a0).bind fun v3 =>
(vFieldAddr 1 v3).bind fun v4 =>
(vLd 1 false v4 m1).bind fun v5 =>
(vApp true 4294967295 1 v5 a1 m1).bind fun r6 =>
(vCheck a0).bind fun v7 =>
(vFieldAddr 1 v7).bind fun v8 =>
(aSt 1 v8 r6.1 r6.2).bind fun m9 =>
(aLenS a1).bind fun v10 =>
some ⟨.ret, [.tuple [v10, .nilIface].toArray], m9, []⟩) (fun p2 m11 => some ⟨.panic p2, [], m11, []⟩)
theorem R41 {a0 a1 : Value} {m : Mem} {r : Out} (h : x41 (LV CV) a0 a1 m = some r) : LV CV (.call 41) [a0, a1] m [] = some r := R_callV (C := CV) (fn := ir41) rfl rfl rfl (Nat.le_of_ble_eq_true rfl) (x := x41 (LV CV) a0 a1 m) (by kernel_rfl) h
/-- strings.IndexByte -/
def x45 (O : Orc) (a0 a1 : Value) (m : Mem) : Option Out :=
retK (O (.call 48) [a0, a1] m []) (fun v0 m1 =>
some ⟨.ret, [v0], m1, []⟩) (fun p2 m3 => some ⟨.panic p2, [], m3, []⟩)
theorem R45 {a0 a1 : Value} {m : Mem} {r : Out} (h : (x45 (LV CV) a0 a1 ⟨[], m.next, m.next, 0⟩).bind (close m) = some r) (hc : [a0, a1].all (clo FUEL) = true := by simp) : LV CV (.call 45) [a0, a1] m [] = some r := R_callP (C := CV) (fn := ir45) rfl rfl rfl (Nat.le_of_ble_eq_true rfl) hc (x := x45 (LV CV) a0 a1 ⟨[], m.next, m.next, 0⟩) (by kernel_rfl) h
/-- (*strings.Builder).copyCheck -/
def x46 (O : Orc) (a0 : Value) (m : Mem) : Option Out :=
(vCheck a0).bind fun v0 =>
(vFieldAddr 0 v0).bind fun v1 =>
(vLd 1 false v1 m).bind fun v2 =>
(vIsNil .ptr false v2).bind fun v3 =>
br v3 (
(aToUns a0 m).bind fun v4 =>
retK (O (.call 49) [v4] m []) (fun v5 m6 =>
(aFromUns 61 2 v5 m6).bind fun v8 =>
(vCheck a0).bind fun v9 =>
(vFieldAddr 0 v9).bind fun v10 =>
(aSt 1 v10 v8 m6).bind fun m11 =>
some ⟨.ret, [.tuple [].toArray], m11, []⟩) (fun p7 m12 => some ⟨.panic p7, [], m12, []⟩)) (
(vCheck a0).bind fun v13 =>
(vFieldAddr 0 v13).bind fun v14 =>
(vLd 1 false v14 m).bind fun v15 =>
(aEqP true v15 a0).bind fun v16 =>
br v16 (
br (.int .i64 (0)) (
some ⟨.ret, [.tuple [].toArray], m, []⟩) (
some ⟨.ret, [.tuple [].toArray], m, []⟩)) (
some ⟨.ret, [.tuple [].toArray], m, []⟩))
theorem R46 {a0 : Value} {m : Mem} {r : Out} (h : x46 (LV CV) a0 m = some r) : LV CV (.call 46) [a0] m [] = some r := R_callV (C := CV) (fn := ir46) rfl rfl rfl (Nat.le_of_ble_eq_true rfl) (x := x46 (LV CV) a0 m) (by kernel_rfl) h
end Go.Proofs.Ytjojfpmelhaknaa.D
