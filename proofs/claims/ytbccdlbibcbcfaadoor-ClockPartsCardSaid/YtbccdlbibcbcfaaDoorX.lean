/-
  What each function does: printed by Vtool, checked by the kernel.
-/
import Derived.Test.YtbccdlbibcbcfaaDoorIR
import Derived.Test.YtbccdlbibcbcfaaDoorVG
namespace Go.Proofs.YtbccdlbibcbcfaaDoor.D
open Go.RowKit
set_option maxRecDepth 100000
set_option linter.unusedVariables false
def puT : List Nat := [3, 4, 5, 6, 7, 8, 9, 10, 11, 12, 13, 14, 15, 16, 17, 18, 19, 20, 21, 22, 24, 27, 28, 30, 31, 32, 33, 39, 40, 41, 42, 46, 47, 48, 54]
def CV : CodeV := ⟨look irsT, look lpsT, gvT, fun f => puT.contains f⟩
/-- noonmark/noonmarklaw05.ClockParses -/
def x3 (O : Orc) (a0 : Value) (m : Mem) : Option Out :=
(aLenS a0).bind fun v0 =>
(aBin .gtr v0 (.int .i64 (500))).bind fun v1 =>
br v1 (
retK (O (.call 8) [] m []) (fun v2 m3 =>
some ⟨.ret, [v2], m3, []⟩) (fun p4 m5 => some ⟨.panic p4, [], m5, []⟩)) (
retK (O (.call 9) [a0] m []) (fun v6 m7 =>
(aExtract 0 v6).bind fun v9 =>
(aExtract 1 v6).bind fun v10 =>
letK ((m7).push ⟨0, [(.int .i64 (0)), (.int .i64 (0))]⟩) fun m11 =>
(aSt 2 (.pointer (some ⟨(m7).next, 0, none⟩)) v9 m11).bind fun m12 =>
retK (O (.call 10) [a0] m12 []) (fun v13 m14 =>
(aExtract 0 v13).bind fun v16 =>
(aExtract 1 v13).bind fun v17 =>
letK ((m14).push ⟨0, [(.int .i64 (0)), (.int .i64 (0))]⟩) fun m18 =>
(aSt 2 (.pointer (some ⟨(m14).next, 0, none⟩)) v16 m18).bind fun m19 =>
retK (O (.call 11) [a0] m19 []) (fun v20 m21 =>
(aExtract 0 v20).bind fun v23 =>
(aExtract 1 v20).bind fun v24 =>
retK (O (.call 12) [a0] m21 []) (fun v25 m26 =>
(aExtract 0 v25).bind fun v28 =>
(aExtract 1 v25).bind fun v29 =>
(vLd 2 true (.pointer (some ⟨(m7).next, 0, none⟩)) m26).bind fun v30 =>
(vLd 2 true (.pointer (some ⟨(m14).next, 0, none⟩)) m26).bind fun v31 =>
(aEqS false [.int, .int] v30 v31).bind fun v32 =>
br v32 (
(aBin .eql v10 v17).bind fun v33 =>
br v33 (
(aBin .eql v23 v28).bind fun v34 =>
br v34 (
(aBin .eql v24 v29).bind fun v35 =>
br v35 (
retK (O (.call 8) [] m26 []) (fun v36 m37 =>
some ⟨.ret, [v36], m37, []⟩) (fun p38 m39 => some ⟨.panic p38, [], m39, []⟩)) (
some ⟨.ret, [(.bool false)], m26, []⟩)) (
some ⟨.ret, [(.bool false)], m26, []⟩)) (
some ⟨.ret, [(.bool false)], m26, []⟩)) (
some ⟨.ret, [(.bool false)], m26, []⟩)) (fun p27 m40 => some ⟨.panic p27, [], m40, []⟩)) (fun p22 m41 => some ⟨.panic p22, [], m41, []⟩)) (fun p15 m42 => some ⟨.panic p15, [], m42, []⟩)) (fun p8 m43 => some ⟨.panic p8, [], m43, []⟩))
theorem R3 {a0 : Value} {m : Mem} {r : Out} (h : (x3 (LV CV) a0 ⟨[], m.next, m.next, 0⟩).bind (close m) = some r) (hc : [a0].all (clo FUEL) = true := by simp) : LV CV (.call 3) [a0] m [] = some r := R_callP (C := CV) (fn := ir3) rfl rfl rfl (Nat.le_of_ble_eq_true rfl) hc (x := x3 (LV CV) a0 ⟨[], m.next, m.next, 0⟩) (by kernel_rfl) h
/-- noonmark/noonmarklaw05.ClockAgain -/
def x4 (O : Orc) (a0 : Value) (m : Mem) : Option Out :=
(aLenS a0).bind fun v0 =>
(aBin .gtr v0 (.int .i64 (500))).bind fun v1 =>
br v1 (
retK (O (.call 8) [] m []) (fun v2 m3 =>
some ⟨.ret, [v2], m3, []⟩) (fun p4 m5 => some ⟨.panic p4, [], m5, []⟩)) (
retK (O (.call 9) [a0] m []) (fun v6 m7 =>
(aExtract 0 v6).bind fun v9 =>
(aExtract 1 v6).bind fun v10 =>
letK ((m7).push ⟨0, [(.int .i64 (0)), (.int .i64 (0))]⟩) fun m11 =>
(aSt 2 (.pointer (some ⟨(m7).next, 0, none⟩)) v9 m11).bind fun m12 =>
(aBin .neq v10 (.int .i64 (0))).bind fun v13 =>
br v13 (
(vLd 2 true (.pointer (some ⟨(m7).next, 0, none⟩)) m12).bind fun v14 =>
(aBuild [(0, 1), (1, 1)] [(.int .i64 (0)), (.int .i64 (0))] []).bind fun v15 =>
(aEqS false [.int, .int] v14 v15).bind fun v16 =>
br v16 (
(aBin .eql v10 (.int .i64 (7))).bind fun v17 =>
br v17 (
retK (O (.call 8) [] m12 []) (fun v18 m19 =>
some ⟨.ret, [v18], m19, []⟩) (fun p20 m21 => some ⟨.panic p20, [], m21, []⟩)) (
some ⟨.ret, [(.bool false)], m12, []⟩)) (
some ⟨.ret, [(.bool false)], m12, []⟩)) (
(vLd 2 true (.pointer (some ⟨(m7).next, 0, none⟩)) m12).bind fun v22 =>
retK (O (.call 13) [v22] m12 []) (fun v23 m24 =>
(aExtract 0 v23).bind fun v26 =>
(aExtract 1 v23).bind fun v27 =>
retK (O (.call 9) [v26] m24 []) (fun v28 m29 =>
(aExtract 0 v28).bind fun v31 =>
(aExtract 1 v28).bind fun v32 =>
letK ((m29).push ⟨0, [(.int .i64 (0)), (.int .i64 (0))]⟩) fun m33 =>
(aSt 2 (.pointer (some ⟨(m29).next, 0, none⟩)) v31 m33).bind fun m34 =>
(vLd 2 true (.pointer (some ⟨(m29).next, 0, none⟩)) m34).bind fun v35 =>
retK (O (.call 13) [v35] m34 []) (fun v36 m37 =>
(aExtract 0 v36).bind fun v39 =>
(aExtract 1 v36).bind fun v40 =>
(aBin .eql v27 (.int .i64 (0))).bind fun v41 =>
br v41 (
(aBin .eql v32 (.int .i64 (0))).bind fun v42 =>
br v42 (
(aBin .eql v40 (.int .i64 (0))).bind fun v43 =>
br v43 (
(vLd 2 true (.pointer (some ⟨(m7).next, 0, none⟩)) m37).bind fun v44 =>
(vLd 2 true (.pointer (some ⟨(m29).next, 0, none⟩)) m37).bind fun v45 =>
(aEqS false [.int, .int] v44 v45).bind fun v46 =>
br v46 (
(aBin .eql v26 v39).bind fun v47 =>
br v47 (
retK (O (.call 8) [] m37 []) (fun v48 m49 =>
some ⟨.ret, [v48], m49, []⟩) (fun p50 m51 => some ⟨.panic p50, [], m51, []⟩)) (
some ⟨.ret, [(.bool false)], m37, []⟩)) (
some ⟨.ret, [(.bool false)], m37, []⟩)) (
some ⟨.ret, [(.bool false)], m37, []⟩)) (
some ⟨.ret, [(.bool false)], m37, []⟩)) (
some ⟨.ret, [(.bool false)], m37, []⟩)) (fun p38 m52 => some ⟨.panic p38, [], m52, []⟩)) (fun p30 m53 => some ⟨.panic p30, [], m53, []⟩)) (fun p25 m54 => some ⟨.panic p25, [], m54, []⟩))) (fun p8 m55 => some ⟨.panic p8, [], m55, []⟩))
theorem R4 {a0 : Value} {m : Mem} {r : Out} (h : (x4 (LV CV) a0 ⟨[], m.next, m.next, 0⟩).bind (close m) = some r) (hc : [a0].all (clo FUEL) = true := by simp) : LV CV (.call 4) [a0] m [] = some r := R_callP (C := CV) (fn := ir4) rfl rfl rfl (Nat.le_of_ble_eq_true rfl) hc (x := x4 (LV CV) a0 ⟨[], m.next, m.next, 0⟩) (by kernel_rfl) h
def y500 (O : Orc) (b0 b1 b2 b3 : Value) (m : Mem) : Option Out :=
(aBin .lss b3 (.int .i64 (5))).bind fun v0 =>
br v0 (
(aBin .add b3 (.int .i64 (1))).bind fun v1 =>
(aCutStr (S [119, 115, 117, 103, 122]) (some b3) (some v1)).bind fun v2 =>
(aBin .add b1 v2).bind fun v3 =>
retK (O (.call 9) [v3] m []) (fun v4 m5 =>
(aExtract 0 v4).bind fun v7 =>
(aExtract 1 v4).bind fun v8 =>
letK ((m5).push ⟨0, [(.int .i64 (0)), (.int .i64 (0))]⟩) fun m9 =>
(aSt 2 (.pointer (some ⟨(m5).next, 0, none⟩)) v7 m9).bind fun m10 =>
(vLit 1 5 [(.int .i64 (0))] [(0, (.int .i64 (0))), (1, (.int .i64 (1))), (2, (.int .i64 (2))), (3, (.int .i64 (2))), (4, (.int .i64 (2)))] m10).bind fun r11 =>
(vIdx 1 r11.1 b3).bind fun v12 =>
(vLd 1 false v12 r11.2).bind fun v13 =>
(aBin .neq v8 (.int .i64 (0))).bind fun v14 =>
br v14 (
some ⟨.ret, [(.bool false), b1, b2, b3], r11.2, []⟩) (
(vFieldAddr 0 (.pointer (some ⟨(m5).next, 0, none⟩))).bind fun v15 =>
(vLd 1 false v15 r11.2).bind fun v16 =>
(aBin .neq v16 b2).bind fun v17 =>
br v17 (
some ⟨.ret, [(.bool false), b1, b2, b3], r11.2, []⟩) (
(vFieldAddr 1 (.pointer (some ⟨(m5).next, 0, none⟩))).bind fun v18 =>
(vLd 1 false v18 r11.2).bind fun v19 =>
(aBin .neq v19 v13).bind fun v20 =>
br v20 (
some ⟨.ret, [(.bool false), b1, b2, b3], r11.2, []⟩) (
(aBin .add b3 (.int .i64 (1))).bind fun v21 =>
O (.loop 500) [b0, b1, b2, v21] r11.2 [])))) (fun p6 m22 => some ⟨.panic p6, [b0, b1, b2, b3], m22, []⟩)) (
some ⟨.exit 0, [b0, b1, b2, b3], m, []⟩)
theorem Q500 {b0 b1 b2 b3 : Value} {m : Mem} {r : Out} (h : y500 (LV CV) b0 b1 b2 b3 m = some r) : LV CV (.loop 500) [b0, b1, b2, b3] m [] = some r := R_loopV (C := CV) (keep := [10, 11, 12, 13]) (b := lb500) rfl (x := y500 (LV CV) b0 b1 b2 b3 m) (by kernel_rfl) h
/-- noonmark/noonmarklaw05.ClockParts -/
def x5 (O : Orc) (a0 a1 a2 a3 a4 : Value) (m : Mem) : Option Out :=
(aBin .lss a0 (.int .i64 (0))).bind fun v0 =>
br v0 (
retK (O (.call 8) [] m []) (fun v1 m2 =>
some ⟨.ret, [v1], m2, []⟩) (fun p3 m4 => some ⟨.panic p3, [], m4, []⟩)) (
(aBin .gtr a0 (.int .i64 (167))).bind fun v5 =>
br v5 (
retK (O (.call 8) [] m []) (fun v6 m7 =>
some ⟨.ret, [v6], m7, []⟩) (fun p8 m9 => some ⟨.panic p8, [], m9, []⟩)) (
(aBin .lss a1 (.int .i64 (0))).bind fun v10 =>
br v10 (
retK (O (.call 8) [] m []) (fun v11 m12 =>
some ⟨.ret, [v11], m12, []⟩) (fun p13 m14 => some ⟨.panic p13, [], m14, []⟩)) (
(aBin .gtr a1 (.int .i64 (59))).bind fun v15 =>
br v15 (
retK (O (.call 8) [] m []) (fun v16 m17 =>
some ⟨.ret, [v16], m17, []⟩) (fun p18 m19 => some ⟨.panic p18, [], m19, []⟩)) (
(aBin .lss a2 (.int .i64 (0))).bind fun v20 =>
br v20 (
retK (O (.call 8) [] m []) (fun v21 m22 =>
some ⟨.ret, [v21], m22, []⟩) (fun p23 m24 => some ⟨.panic p23, [], m24, []⟩)) (
(aBin .gtr a2 (.int .i64 (59))).bind fun v25 =>
br v25 (
retK (O (.call 8) [] m []) (fun v26 m27 =>
some ⟨.ret, [v26], m27, []⟩) (fun p28 m29 => some ⟨.panic p28, [], m29, []⟩)) (
(aBin .lss a3 (.int .i64 (0))).bind fun v30 =>
br v30 (
retK (O (.call 8) [] m []) (fun v31 m32 =>
some ⟨.ret, [v31], m32, []⟩) (fun p33 m34 => some ⟨.panic p33, [], m34, []⟩)) (
(aBin .gtr a3 (.int .i64 (2))).bind fun v35 =>
br v35 (
retK (O (.call 8) [] m []) (fun v36 m37 =>
some ⟨.ret, [v36], m37, []⟩) (fun p38 m39 => some ⟨.panic p38, [], m39, []⟩)) (
(aBin .mul a0 (.int .i64 (3600))).bind fun v40 =>
(aBin .mul a1 (.int .i64 (60))).bind fun v41 =>
(aBin .add v40 v41).bind fun v42 =>
(aBin .add v42 a2).bind fun v43 =>
cutN (
br a4 (
(aUn .neg v43).bind fun v49 =>
some ⟨.normal, [a0, a1, a2, (S [45]), v49], m, []⟩) (
some ⟨.normal, [a0, a1, a2, (S []), v43], m, []⟩)) (fun w44 m45 =>
cutN (
(aBin .gtr (w44.getD 0 undef) (.int .i64 (99))).bind fun v55 =>
br v55 (
(aBin .quo (w44.getD 0 undef) (.int .i64 (100))).bind fun v56 =>
retK (O (.call 14) [v56] m45 []) (fun v57 m58 =>
(aBin .add (w44.getD 3 undef) v57).bind fun v60 =>
some ⟨.normal, [(w44.getD 0 undef), (w44.getD 1 undef), (w44.getD 2 undef), v60, (w44.getD 4 undef)], m58, []⟩) (fun p59 m61 => some ⟨.panic p59, [(w44.getD 0 undef), (w44.getD 1 undef), (w44.getD 2 undef), (w44.getD 3 undef), (w44.getD 4 undef)], m61, []⟩)) (
some ⟨.normal, [(w44.getD 0 undef), (w44.getD 1 undef), (w44.getD 2 undef), (w44.getD 3 undef), (w44.getD 4 undef)], m45, []⟩)) (fun w50 m51 =>
(aBin .quo (w50.getD 0 undef) (.int .i64 (10))).bind fun v62 =>
(aBin .rem v62 (.int .i64 (10))).bind fun v63 =>
retK (O (.call 14) [v63] m51 []) (fun v64 m65 =>
(aBin .add (w50.getD 3 undef) v64).bind fun v67 =>
(aBin .rem (w50.getD 0 undef) (.int .i64 (10))).bind fun v68 =>
retK (O (.call 14) [v68] m65 []) (fun v69 m70 =>
(aBin .add v67 v69).bind fun v72 =>
(aBin .add v72 (S [58])).bind fun v73 =>
(aBin .quo (w50.getD 1 undef) (.int .i64 (10))).bind fun v74 =>
retK (O (.call 14) [v74] m70 []) (fun v75 m76 =>
(aBin .add v73 v75).bind fun v78 =>
(aBin .rem (w50.getD 1 undef) (.int .i64 (10))).bind fun v79 =>
retK (O (.call 14) [v79] m76 []) (fun v80 m81 =>
(aBin .add v78 v80).bind fun v83 =>
(aBin .add v83 (S [58])).bind fun v84 =>
(aBin .quo (w50.getD 2 undef) (.int .i64 (10))).bind fun v85 =>
retK (O (.call 14) [v85] m81 []) (fun v86 m87 =>
(aBin .add v84 v86).bind fun v89 =>
(aBin .rem (w50.getD 2 undef) (.int .i64 (10))).bind fun v90 =>
retK (O (.call 14) [v90] m87 []) (fun v91 m92 =>
(aBin .add v89 v91).bind fun v94 =>
lpN (O (.loop 500) [undef, v94, (w50.getD 4 undef), (.int .i64 (0))] m92 []) (fun id98 w95 m96 =>
if id98 = 0 then
retK (O (.call 9) [(w95.getD 1 undef)] m96 []) (fun v100 m101 =>
(aExtract 0 v100).bind fun v103 =>
(aExtract 1 v100).bind fun v104 =>
letK ((m101).push ⟨0, [(.int .i64 (0)), (.int .i64 (0))]⟩) fun m105 =>
(aSt 2 (.pointer (some ⟨(m101).next, 0, none⟩)) v103 m105).bind fun m106 =>
(aBin .eql v104 (.int .i64 (0))).bind fun v107 =>
br v107 (
(vFieldAddr 0 (.pointer (some ⟨(m101).next, 0, none⟩))).bind fun v108 =>
(vLd 1 false v108 m106).bind fun v109 =>
(aBin .eql v109 (w95.getD 2 undef)).bind fun v110 =>
br v110 (
(vFieldAddr 1 (.pointer (some ⟨(m101).next, 0, none⟩))).bind fun v111 =>
(vLd 1 false v111 m106).bind fun v112 =>
(aBin .eql v112 (.int .i64 (0))).bind fun v113 =>
br v113 (
retK (O (.call 8) [] m106 []) (fun v114 m115 =>
some ⟨.ret, [v114], m115, []⟩) (fun p116 m117 => some ⟨.panic p116, [], m117, []⟩)) (
some ⟨.ret, [(.bool false)], m106, []⟩)) (
some ⟨.ret, [(.bool false)], m106, []⟩)) (
some ⟨.ret, [(.bool false)], m106, []⟩)) (fun p102 m118 => some ⟨.panic p102, [], m118, []⟩) else
none) (fun w95 m96 =>
some ⟨.ret, [(w95.getD 0 undef)], m96, []⟩) (fun p99 w95 m96 =>
some ⟨.panic p99, [], m96, []⟩)) (fun p93 m119 => some ⟨.panic p93, [], m119, []⟩)) (fun p88 m120 => some ⟨.panic p88, [], m120, []⟩)) (fun p82 m121 => some ⟨.panic p82, [], m121, []⟩)) (fun p77 m122 => some ⟨.panic p77, [], m122, []⟩)) (fun p71 m123 => some ⟨.panic p71, [], m123, []⟩)) (fun p66 m124 => some ⟨.panic p66, [], m124, []⟩)) (fun id53 w50 m51 =>
none) (fun w50 m51 =>
some ⟨.ret, [undef], m51, []⟩) (fun p54 w50 m51 =>
some ⟨.panic p54, [], m51, []⟩)) (fun id47 w44 m45 =>
none) (fun w44 m45 =>
some ⟨.ret, [undef], m45, []⟩) (fun p48 w44 m45 =>
some ⟨.panic p48, [], m45, []⟩)))))))))
theorem R5 {a0 a1 a2 a3 a4 : Value} {m : Mem} {r : Out} (h : (x5 (LV CV) a0 a1 a2 a3 a4 ⟨[], m.next, m.next, 0⟩).bind (close m) = some r) (hc : [a0, a1, a2, a3, a4].all (clo FUEL) = true := by simp) : LV CV (.call 5) [a0, a1, a2, a3, a4] m [] = some r := R_callP (C := CV) (fn := ir5) rfl rfl rfl (Nat.le_of_ble_eq_true rfl) hc (x := x5 (LV CV) a0 a1 a2 a3 a4 ⟨[], m.next, m.next, 0⟩) (by kernel_rfl) h
/-- noonmark/noonmarklaw05.ClockShows -/
def x6 (O : Orc) (a0 a1 : Value) (m : Mem) : Option Out :=
if known a0 = true then letK ((m).push ⟨0, (Value.cells a0).toList⟩) fun m0 =>
(vLd 2 true (.pointer (some ⟨(m).next, 0, none⟩)) m0).bind fun v1 =>
retK (O (.call 13) [v1] m0 []) (fun v2 m3 =>
(aExtract 0 v2).bind fun v5 =>
(aExtract 1 v2).bind fun v6 =>
(vLd 2 true (.pointer (some ⟨(m).next, 0, none⟩)) m3).bind fun v7 =>
retK (O (.call 15) [v7] m3 []) (fun v8 m9 =>
(aExtract 0 v8).bind fun v11 =>
(aExtract 1 v8).bind fun v12 =>
retK (O (.call 16) [a1] m9 []) (fun v13 m14 =>
(aExtract 0 v13).bind fun v16 =>
(aExtract 1 v13).bind fun v17 =>
retK (O (.call 17) [a1] m14 []) (fun v18 m19 =>
(aExtract 0 v18).bind fun v21 =>
(aExtract 1 v18).bind fun v22 =>
(aBin .eql v5 v11).bind fun v23 =>
br v23 (
(aBin .eql v6 v12).bind fun v24 =>
br v24 (
(aBin .eql v16 v21).bind fun v25 =>
br v25 (
(aBin .eql v17 v22).bind fun v26 =>
br v26 (
retK (O (.call 8) [] m19 []) (fun v27 m28 =>
some ⟨.ret, [v27], m28, []⟩) (fun p29 m30 => some ⟨.panic p29, [], m30, []⟩)) (
some ⟨.ret, [(.bool false)], m19, []⟩)) (
some ⟨.ret, [(.bool false)], m19, []⟩)) (
some ⟨.ret, [(.bool false)], m19, []⟩)) (
some ⟨.ret, [(.bool false)], m19, []⟩)) (fun p20 m31 => some ⟨.panic p20, [], m31, []⟩)) (fun p15 m32 => some ⟨.panic p15, [], m32, []⟩)) (fun p10 m33 => some ⟨.panic p10, [], m33, []⟩)) (fun p4 m34 => some ⟨.panic p4, [], m34, []⟩) else none
theorem R6 {a0 a1 : Value} {m : Mem} {r : Out} (h : (x6 (LV CV) a0 a1 ⟨[], m.next, m.next, 0⟩).bind (close m) = some r) (hc : [a0, a1].all (clo FUEL) = true := by simp) : LV CV (.call 6) [a0, a1] m [] = some r := R_callP (C := CV) (fn := ir6) rfl rfl rfl (Nat.le_of_ble_eq_true rfl) hc (x := x6 (LV CV) a0 a1 ⟨[], m.next, m.next, 0⟩) (by kernel_rfl) h
/-- noonmark/noonmarklaw05.ClockBack -/
def x7 (O : Orc) (a0 a1 : Value) (m : Mem) : Option Out :=
if known a0 = true then letK ((m).push ⟨0, (Value.cells a0).toList⟩) fun m0 =>
(vLd 2 true (.pointer (some ⟨(m).next, 0, none⟩)) m0).bind fun v1 =>
retK (O (.call 13) [v1] m0 []) (fun v2 m3 =>
(aExtract 0 v2).bind fun v5 =>
(aExtract 1 v2).bind fun v6 =>
cutN (
(aBin .eql v6 (.int .i64 (0))).bind fun v12 =>
br v12 (
retK (O (.call 9) [v5] m3 []) (fun v13 m14 =>
(aExtract 0 v13).bind fun v16 =>
(aExtract 1 v13).bind fun v17 =>
letK ((m14).push ⟨0, [(.int .i64 (0)), (.int .i64 (0))]⟩) fun m18 =>
(aSt 2 (.pointer (some ⟨(m14).next, 0, none⟩)) v16 m18).bind fun m19 =>
(aBin .neq v17 (.int .i64 (0))).bind fun v20 =>
br v20 (
some ⟨.ret, [a1, (.bool false)], m19, []⟩) (
(vLd 2 true (.pointer (some ⟨(m14).next, 0, none⟩)) m19).bind fun v21 =>
(vLd 2 true (.pointer (some ⟨(m).next, 0, none⟩)) m19).bind fun v22 =>
(aEqS true [.int, .int] v21 v22).bind fun v23 =>
br v23 (
some ⟨.ret, [a1, (.bool false)], m19, []⟩) (
some ⟨.normal, [a1, (.bool false)], m19, []⟩))) (fun p15 m24 => some ⟨.panic p15, [a1, (.bool false)], m24, []⟩)) (
some ⟨.normal, [a1, (.bool false)], m3, []⟩)) (fun w7 m8 =>
retK (O (.call 16) [(w7.getD 0 undef)] m8 []) (fun v25 m26 =>
(aExtract 0 v25).bind fun v28 =>
(aExtract 1 v25).bind fun v29 =>
cutN (
(aBin .eql v29 (.int .i64 (0))).bind fun v35 =>
br v35 (
retK (O (.call 11) [v28] m26 []) (fun v36 m37 =>
(aExtract 0 v36).bind fun v39 =>
(aExtract 1 v36).bind fun v40 =>
(aBin .neq v40 (.int .i64 (0))).bind fun v41 =>
br v41 (
some ⟨.ret, [(w7.getD 0 undef), (.bool false), v29], m37, []⟩) (
(aBin .neq v39 (w7.getD 0 undef)).bind fun v42 =>
br v42 (
some ⟨.ret, [(w7.getD 0 undef), (.bool false), v29], m37, []⟩) (
some ⟨.normal, [(w7.getD 0 undef), (w7.getD 1 undef), v29], m37, []⟩))) (fun p38 m43 => some ⟨.panic p38, [(w7.getD 0 undef), (w7.getD 1 undef), v29], m43, []⟩)) (
some ⟨.normal, [(w7.getD 0 undef), (w7.getD 1 undef), v29], m26, []⟩)) (fun w30 m31 =>
(aBin .eql (w30.getD 2 undef) (.int .i64 (0))).bind fun v44 =>
(aBin .geq (w30.getD 0 undef) (.int .i64 (-86400))).bind fun v45 =>
br v45 (
(aBin .leq (w30.getD 0 undef) (.int .i64 (86400))).bind fun v46 =>
(aEqB false v44 v46).bind fun v47 =>
br v47 (
retK (O (.call 8) [] m31 []) (fun v48 m49 =>
some ⟨.ret, [v48], m49, []⟩) (fun p50 m51 => some ⟨.panic p50, [], m51, []⟩)) (
some ⟨.ret, [(.bool false)], m31, []⟩)) (
(aEqB false v44 (.bool false)).bind fun v52 =>
br v52 (
retK (O (.call 8) [] m31 []) (fun v53 m54 =>
some ⟨.ret, [v53], m54, []⟩) (fun p55 m56 => some ⟨.panic p55, [], m56, []⟩)) (
some ⟨.ret, [(.bool false)], m31, []⟩))) (fun id33 w30 m31 =>
none) (fun w30 m31 =>
some ⟨.ret, [(w30.getD 1 undef)], m31, []⟩) (fun p34 w30 m31 =>
some ⟨.panic p34, [], m31, []⟩)) (fun p27 m57 => some ⟨.panic p27, [], m57, []⟩)) (fun id10 w7 m8 =>
none) (fun w7 m8 =>
some ⟨.ret, [(w7.getD 1 undef)], m8, []⟩) (fun p11 w7 m8 =>
some ⟨.panic p11, [], m8, []⟩)) (fun p4 m58 => some ⟨.panic p4, [], m58, []⟩) else none
theorem R7 {a0 a1 : Value} {m : Mem} {r : Out} (h : (x7 (LV CV) a0 a1 ⟨[], m.next, m.next, 0⟩).bind (close m) = some r) (hc : [a0, a1].all (clo FUEL) = true := by simp) : LV CV (.call 7) [a0, a1] m [] = some r := R_callP (C := CV) (fn := ir7) rfl rfl rfl (Nat.le_of_ble_eq_true rfl) hc (x := x7 (LV CV) a0 a1 ⟨[], m.next, m.next, 0⟩) (by kernel_rfl) h
/-- noonmark/clock.Parse -/
def x9 (O : Orc) (a0 : Value) (m : Mem) : Option Out :=
letK ((m).push ⟨0, [(.int .i64 (0)), (.int .i64 (0))]⟩) fun m0 =>
retK (O (.call 18) [a0] m0 []) (fun v1 m2 =>
(aExtract 0 v1).bind fun v4 =>
(aExtract 1 v1).bind fun v5 =>
(aBin .eql v4 (S [45])).bind fun v6 =>
br v6 (
(aBin .neq a0 v4).bind fun v7 =>
br v7 (
(aBuild [(0, 1), (1, 1)] [(.int .i64 (0)), (.int .i64 (0))] []).bind fun v8 =>
(aSt 2 (.pointer (some ⟨(m).next, 0, none⟩)) v8 m2).bind fun m9 =>
(resOfV ir9 (put (put (put (put (put (put (put (put (put (put (put (put (put (put (put (put (put (put (put (put (put (envOf [a0]) (some 2) (.pointer (some ⟨(m).next, 0, none⟩))) (some 3) (.int .i64 (0))) (some 9) a0) (some 10) v1) (some 8) v1) (some 11) v4) (some 12) v5) (some 4) v4) (some 5) v5) (some 13) v4) (some 14) v6) (some 15) v6) (some 15) (.bool true)) (some 16) a0) (some 15) (.bool true)) (some 17) v4) (some 15) (.bool true)) (some 18) v7) (some 19) v7) (some 20) v8) (some 3) (.int .i64 (7))) m9).bind fun v10 => some ⟨.ret, [v10], m9, []⟩) (
retK (O (.call 19) [v4] m2 []) (fun v11 m12 =>
(aExtract 0 v11).bind fun v14 =>
(aExtract 1 v11).bind fun v15 =>
(aBin .neq v15 (.int .i64 (0))).bind fun v16 =>
br v16 (
(aBuild [(0, 1), (1, 1)] [(.int .i64 (0)), (.int .i64 (0))] []).bind fun v17 =>
(aSt 2 (.pointer (some ⟨(m).next, 0, none⟩)) v17 m12).bind fun m18 =>
(resOfV ir9 (put (put (put (put (put (put (put (put (put (put (put (put (put (put (put (put (put (put (put (put (put (put (put (put (put (put (put (put (put (put (put (envOf [a0]) (some 2) (.pointer (some ⟨(m).next, 0, none⟩))) (some 3) (.int .i64 (0))) (some 9) a0) (some 10) v1) (some 8) v1) (some 11) v4) (some 12) v5) (some 4) v4) (some 5) v5) (some 13) v4) (some 14) v6) (some 15) v6) (some 15) (.bool true)) (some 16) a0) (some 15) (.bool true)) (some 17) v4) (some 15) (.bool true)) (some 18) v7) (some 19) v7) (some 22) v4) (some 23) v11) (some 21) v11) (some 24) v14) (some 25) v15) (some 6) v14) (some 7) v15) (some 26) v15) (some 27) v16) (some 28) v17) (some 29) v15) (some 3) v15) m18).bind fun v19 => some ⟨.ret, [v19], m18, []⟩) (
(aBuild [(0, 1), (1, 1)] [(.int .i64 (0)), (.int .i64 (0))] [(0, v14), (1, v5)]).bind fun v20 =>
(aSt 2 (.pointer (some ⟨(m).next, 0, none⟩)) v20 m12).bind fun m21 =>
(resOfV ir9 (put (put (put (put (put (put (put (put (put (put (put (put (put (put (put (put (put (put (put (put (put (put (put (put (put (put (put (put (put (put (put (put (envOf [a0]) (some 2) (.pointer (some ⟨(m).next, 0, none⟩))) (some 3) (.int .i64 (0))) (some 9) a0) (some 10) v1) (some 8) v1) (some 11) v4) (some 12) v5) (some 4) v4) (some 5) v5) (some 13) v4) (some 14) v6) (some 15) v6) (some 15) (.bool true)) (some 16) a0) (some 15) (.bool true)) (some 17) v4) (some 15) (.bool true)) (some 18) v7) (some 19) v7) (some 22) v4) (some 23) v11) (some 21) v11) (some 24) v14) (some 25) v15) (some 6) v14) (some 7) v15) (some 26) v15) (some 27) v16) (some 30) v14) (some 31) v5) (some 32) v20) (some 3) (.int .i64 (0))) m21).bind fun v22 => some ⟨.ret, [v22], m21, []⟩)) (fun p13 m23 => some ⟨.panic p13, [], m23, []⟩))) (
retK (O (.call 19) [v4] m2 []) (fun v24 m25 =>
(aExtract 0 v24).bind fun v27 =>
(aExtract 1 v24).bind fun v28 =>
(aBin .neq v28 (.int .i64 (0))).bind fun v29 =>
br v29 (
(aBuild [(0, 1), (1, 1)] [(.int .i64 (0)), (.int .i64 (0))] []).bind fun v30 =>
(aSt 2 (.pointer (some ⟨(m).next, 0, none⟩)) v30 m25).bind fun m31 =>
(resOfV ir9 (put (put (put (put (put (put (put (put (put (put (put (put (put (put (put (put (put (put (put (put (put (put (put (put (put (put (put (put (put (put (put (envOf [a0]) (some 2) (.pointer (some ⟨(m).next, 0, none⟩))) (some 3) (.int .i64 (0))) (some 9) a0) (some 10) v1) (some 8) v1) (some 11) v4) (some 12) v5) (some 4) v4) (some 5) v5) (some 13) v4) (some 14) v6) (some 15) v6) (some 15) (.bool false)) (some 16) gone) (some 15) (.bool false)) (some 17) gone) (some 15) (.bool false)) (some 18) gone) (some 19) (.bool false)) (some 22) v4) (some 23) v24) (some 21) v24) (some 24) v27) (some 25) v28) (some 6) v27) (some 7) v28) (some 26) v28) (some 27) v29) (some 28) v30) (some 29) v28) (some 3) v28) m31).bind fun v32 => some ⟨.ret, [v32], m31, []⟩) (
(aBuild [(0, 1), (1, 1)] [(.int .i64 (0)), (.int .i64 (0))] [(0, v27), (1, v5)]).bind fun v33 =>
(aSt 2 (.pointer (some ⟨(m).next, 0, none⟩)) v33 m25).bind fun m34 =>
(resOfV ir9 (put (put (put (put (put (put (put (put (put (put (put (put (put (put (put (put (put (put (put (put (put (put (put (put (put (put (put (put (put (put (put (put (envOf [a0]) (some 2) (.pointer (some ⟨(m).next, 0, none⟩))) (some 3) (.int .i64 (0))) (some 9) a0) (some 10) v1) (some 8) v1) (some 11) v4) (some 12) v5) (some 4) v4) (some 5) v5) (some 13) v4) (some 14) v6) (some 15) v6) (some 15) (.bool false)) (some 16) gone) (some 15) (.bool false)) (some 17) gone) (some 15) (.bool false)) (some 18) gone) (some 19) (.bool false)) (some 22) v4) (some 23) v24) (some 21) v24) (some 24) v27) (some 25) v28) (some 6) v27) (some 7) v28) (some 26) v28) (some 27) v29) (some 30) v27) (some 31) v5) (some 32) v33) (some 3) (.int .i64 (0))) m34).bind fun v35 => some ⟨.ret, [v35], m34, []⟩)) (fun p26 m36 => some ⟨.panic p26, [], m36, []⟩))) (fun p3 m37 => some ⟨.panic p3, [], m37, []⟩)
theorem R9 {a0 : Value} {m : Mem} {r : Out} (h : (x9 (LV CV) a0 ⟨[], m.next, m.next, 0⟩).bind (close m) = some r) (hc : [a0].all (clo FUEL) = true := by simp) : LV CV (.call 9) [a0] m [] = some r := R_callP (C := CV) (fn := ir9) rfl rfl rfl (Nat.le_of_ble_eq_true rfl) hc (x := x9 (LV CV) a0 ⟨[], m.next, m.next, 0⟩) (by kernel_rfl) h
/-- noonmark/noonmarkref05.Parse -/
def x10 (O : Orc) (a0 : Value) (m : Mem) : Option Out :=
letK ((m).push ⟨0, [(.int .i64 (0)), (.int .i64 (0))]⟩) fun m0 =>
cutN (
(aLenS a0).bind fun v6 =>
(aBin .gtr v6 (.int .i64 (1))).bind fun v7 =>
br v7 (
(aBin .neq a0 (S [45])).bind fun v8 =>
br v8 (
cutN (
(aLenS a0).bind fun v14 =>
(aBin .sub v14 (.int .i64 (1))).bind fun v15 =>
(aByte a0 v15).bind fun v16 =>
(aBin .eql v16 (.int .u8 (119))).bind fun v17 =>
br v17 (
some ⟨.normal, [a0, (.pointer (some ⟨(m).next, 0, none⟩)), (.int .i64 (0)), (.bool true)], m0, []⟩) (
(aBin .eql v16 (.int .u8 (115))).bind fun v18 =>
br v18 (
some ⟨.normal, [a0, (.pointer (some ⟨(m).next, 0, none⟩)), (.int .i64 (1)), (.bool true)], m0, []⟩) (
(aBin .eql v16 (.int .u8 (117))).bind fun v19 =>
br v19 (
br v19 (
some ⟨.normal, [a0, (.pointer (some ⟨(m).next, 0, none⟩)), (.int .i64 (2)), (.bool true)], m0, []⟩) (
some ⟨.normal, [a0, (.pointer (some ⟨(m).next, 0, none⟩)), (.int .i64 (0)), (.bool false)], m0, []⟩)) (
(aBin .eql v16 (.int .u8 (103))).bind fun v20 =>
br v20 (
br v20 (
some ⟨.normal, [a0, (.pointer (some ⟨(m).next, 0, none⟩)), (.int .i64 (2)), (.bool true)], m0, []⟩) (
some ⟨.normal, [a0, (.pointer (some ⟨(m).next, 0, none⟩)), (.int .i64 (0)), (.bool false)], m0, []⟩)) (
(aBin .eql v16 (.int .u8 (122))).bind fun v21 =>
br v21 (
some ⟨.normal, [a0, (.pointer (some ⟨(m).next, 0, none⟩)), (.int .i64 (2)), (.bool true)], m0, []⟩) (
some ⟨.normal, [a0, (.pointer (some ⟨(m).next, 0, none⟩)), (.int .i64 (0)), (.bool false)], m0, []⟩)))))) (fun w9 m10 =>
br (w9.getD 3 undef) (
(aLenS (w9.getD 0 undef)).bind fun v22 =>
(aBin .sub v22 (.int .i64 (1))).bind fun v23 =>
(aCutStr (w9.getD 0 undef) none (some v23)).bind fun v24 =>
(aBin .eql v24 (S [45])).bind fun v25 =>
br v25 (
(aBuild [(0, 1), (1, 1)] [(.int .i64 (0)), (.int .i64 (0))] []).bind fun v26 =>
(aSt 2 (w9.getD 1 undef) v26 m10).bind fun m27 =>
some ⟨.ret, [v24, (w9.getD 1 undef), (.int .i64 (7)), (w9.getD 2 undef)], m27, []⟩) (
some ⟨.normal, [v24, (w9.getD 1 undef), undef, (w9.getD 2 undef)], m10, []⟩)) (
some ⟨.normal, [(w9.getD 0 undef), (w9.getD 1 undef), undef, (w9.getD 2 undef)], m10, []⟩)) (fun id12 w9 m10 =>
some ⟨.exit id12, [(w9.getD 0 undef), (w9.getD 1 undef), undef, (w9.getD 2 undef)], m10, []⟩) (fun w9 m10 =>
some ⟨.ret, [(w9.getD 0 undef), (w9.getD 1 undef), undef, (w9.getD 2 undef)], m10, []⟩) (fun p13 w9 m10 =>
some ⟨.panic p13, [(w9.getD 0 undef), (w9.getD 1 undef), undef, (w9.getD 2 undef)], m10, []⟩)) (
some ⟨.normal, [a0, (.pointer (some ⟨(m).next, 0, none⟩)), (.int .i64 (0)), (.int .i64 (0))], m0, []⟩)) (
some ⟨.normal, [a0, (.pointer (some ⟨(m).next, 0, none⟩)), (.int .i64 (0)), (.int .i64 (0))], m0, []⟩)) (fun w1 m2 =>
retK (O (.call 20) [(w1.getD 0 undef)] m2 []) (fun v28 m29 =>
(aExtract 0 v28).bind fun v31 =>
(aExtract 1 v28).bind fun v32 =>
(aUn .not v32).bind fun v33 =>
br v33 (
(aBuild [(0, 1), (1, 1)] [(.int .i64 (0)), (.int .i64 (0))] []).bind fun v34 =>
(aSt 2 (w1.getD 1 undef) v34 m29).bind fun m35 =>
(resOfV ir10 (put (put (put (put (put (put (put (put (put (put (put (unpack [0, 2, 3, 4] w1) (some 38) (w1.getD 0 undef)) (some 39) v28) (some 37) v28) (some 40) v31) (some 41) v32) (some 6) v31) (some 7) v32) (some 42) v32) (some 43) v33) (some 44) v34) (some 3) (.int .i64 (7))) m35).bind fun v36 => some ⟨.ret, [v36], m35, []⟩) (
(aBuild [(0, 1), (1, 1)] [(.int .i64 (0)), (.int .i64 (0))] [(0, v31), (1, (w1.getD 3 undef))]).bind fun v37 =>
(aSt 2 (w1.getD 1 undef) v37 m29).bind fun m38 =>
(resOfV ir10 (put (put (put (put (put (put (put (put (put (put (put (put (put (unpack [0, 2, 3, 4] w1) (some 38) (w1.getD 0 undef)) (some 39) v28) (some 37) v28) (some 40) v31) (some 41) v32) (some 6) v31) (some 7) v32) (some 42) v32) (some 43) v33) (some 45) v31) (some 46) (w1.getD 3 undef)) (some 47) v37) (some 3) (.int .i64 (0))) m38).bind fun v39 => some ⟨.ret, [v39], m38, []⟩)) (fun p30 m40 => some ⟨.panic p30, [], m40, []⟩)) (fun id4 w1 m2 =>
none) (fun w1 m2 =>
(resOfV ir10 (unpack [0, 2, 3, 4] w1) m2).bind fun v41 => some ⟨.ret, [v41], m2, []⟩) (fun p5 w1 m2 =>
some ⟨.panic p5, [], m2, []⟩)
theorem R10 {a0 : Value} {m : Mem} {r : Out} (h : (x10 (LV CV) a0 ⟨[], m.next, m.next, 0⟩).bind (close m) = some r) (hc : [a0].all (clo FUEL) = true := by simp) : LV CV (.call 10) [a0] m [] = some r := R_callP (C := CV) (fn := ir10) rfl rfl rfl (Nat.le_of_ble_eq_true rfl) hc (x := x10 (LV CV) a0 ⟨[], m.next, m.next, 0⟩) (by kernel_rfl) h
/-- noonmark/clock.Amount -/
def x11 (O : Orc) (a0 : Value) (m : Mem) : Option Out :=
retK (O (.call 19) [a0] m []) (fun v0 m1 =>
(aExtract 0 v0).bind fun v3 =>
(aExtract 1 v0).bind fun v4 =>
(aBin .neq v4 (.int .i64 (0))).bind fun v5 =>
br v5 (
some ⟨.ret, [.tuple [(.int .i64 (0)), (.int .i64 (7))].toArray], m1, []⟩) (
(aBin .gtr v3 (.int .i64 (86400))).bind fun v6 =>
br v6 (
some ⟨.ret, [.tuple [(.int .i64 (0)), (.int .i64 (7))].toArray], m1, []⟩) (
(aBin .lss v3 (.int .i64 (-86400))).bind fun v7 =>
br v7 (
some ⟨.ret, [.tuple [(.int .i64 (0)), (.int .i64 (7))].toArray], m1, []⟩) (
some ⟨.ret, [.tuple [v3, (.int .i64 (0))].toArray], m1, []⟩)))) (fun p2 m8 => some ⟨.panic p2, [], m8, []⟩)
theorem R11 {a0 : Value} {m : Mem} {r : Out} (h : (x11 (LV CV) a0 ⟨[], m.next, m.next, 0⟩).bind (close m) = some r) (hc : [a0].all (clo FUEL) = true := by simp) : LV CV (.call 11) [a0] m [] = some r := R_callP (C := CV) (fn := ir11) rfl rfl rfl (Nat.le_of_ble_eq_true rfl) hc (x := x11 (LV CV) a0 ⟨[], m.next, m.next, 0⟩) (by kernel_rfl) h
/-- noonmark/noonmarkref05.Amount -/
def x12 (O : Orc) (a0 : Value) (m : Mem) : Option Out :=
retK (O (.call 20) [a0] m []) (fun v0 m1 =>
(aExtract 0 v0).bind fun v3 =>
(aExtract 1 v0).bind fun v4 =>
(aUn .not v4).bind fun v5 =>
br v5 (
some ⟨.ret, [.tuple [(.int .i64 (0)), (.int .i64 (7))].toArray], m1, []⟩) (
(aBin .gtr v3 (.int .i64 (86400))).bind fun v6 =>
br v6 (
some ⟨.ret, [.tuple [(.int .i64 (0)), (.int .i64 (7))].toArray], m1, []⟩) (
(aBin .lss v3 (.int .i64 (-86400))).bind fun v7 =>
br v7 (
some ⟨.ret, [.tuple [(.int .i64 (0)), (.int .i64 (7))].toArray], m1, []⟩) (
some ⟨.ret, [.tuple [v3, (.int .i64 (0))].toArray], m1, []⟩)))) (fun p2 m8 => some ⟨.panic p2, [], m8, []⟩)
theorem R12 {a0 : Value} {m : Mem} {r : Out} (h : (x12 (LV CV) a0 ⟨[], m.next, m.next, 0⟩).bind (close m) = some r) (hc : [a0].all (clo FUEL) = true := by simp) : LV CV (.call 12) [a0] m [] = some r := R_callP (C := CV) (fn := ir12) rfl rfl rfl (Nat.le_of_ble_eq_true rfl) hc (x := x12 (LV CV) a0 ⟨[], m.next, m.next, 0⟩) (by kernel_rfl) h
/-- noonmark/clock.Show -/
def x13 (O : Orc) (a0 : Value) (m : Mem) : Option Out :=
if known a0 = true then letK ((m).push ⟨0, (Value.cells a0).toList⟩) fun m0 =>
(vFieldAddr 0 (.pointer (some ⟨(m).next, 0, none⟩))).bind fun v1 =>
(vLd 1 false v1 m0).bind fun v2 =>
(aBin .leq v2 (.int .i64 (-604800))).bind fun v3 =>
br v3 (
some ⟨.ret, [.tuple [(S []), (.int .i64 (1))].toArray], m0, []⟩) (
(vFieldAddr 0 (.pointer (some ⟨(m).next, 0, none⟩))).bind fun v4 =>
(vLd 1 false v4 m0).bind fun v5 =>
(aBin .geq v5 (.int .i64 (604800))).bind fun v6 =>
br v6 (
some ⟨.ret, [.tuple [(S []), (.int .i64 (1))].toArray], m0, []⟩) (
(vFieldAddr 1 (.pointer (some ⟨(m).next, 0, none⟩))).bind fun v7 =>
(vLd 1 false v7 m0).bind fun v8 =>
(aBin .lss v8 (.int .i64 (0))).bind fun v9 =>
br v9 (
some ⟨.ret, [.tuple [(S []), (.int .i64 (1))].toArray], m0, []⟩) (
(vFieldAddr 1 (.pointer (some ⟨(m).next, 0, none⟩))).bind fun v10 =>
(vLd 1 false v10 m0).bind fun v11 =>
(aBin .gtr v11 (.int .i64 (2))).bind fun v12 =>
br v12 (
some ⟨.ret, [.tuple [(S []), (.int .i64 (1))].toArray], m0, []⟩) (
(vFieldAddr 0 (.pointer (some ⟨(m).next, 0, none⟩))).bind fun v13 =>
(vLd 1 false v13 m0).bind fun v14 =>
retK (O (.call 21) [v14] ((m0).floor (m0).next) []) (fun v15 m16 =>
(aBuild [(0, 1), (1, 1), (2, 1)] [(S []), (S []), (S [])] [(0, (S [])), (1, (S [115])), (2, (S [117]))]).bind fun v18 =>
(vFieldAddr 1 (.pointer (some ⟨(m).next, 0, none⟩))).bind fun v19 =>
(vLd 1 false v19 (m16.floor (m0).lo)).bind fun v20 =>
(aElem false 3 1 v18 v20).bind fun v21 =>
(aBin .add v15 v21).bind fun v22 =>
some ⟨.ret, [.tuple [v22, (.int .i64 (0))].toArray], (m16.floor (m0).lo), []⟩) (fun p17 m23 => none))))) else none
theorem R13 {a0 : Value} {m : Mem} {r : Out} (h : (x13 (LV CV) a0 ⟨[], m.next, m.next, 0⟩).bind (close m) = some r) (hc : [a0].all (clo FUEL) = true := by simp) : LV CV (.call 13) [a0] m [] = some r := R_callP (C := CV) (fn := ir13) rfl rfl rfl (Nat.le_of_ble_eq_true rfl) hc (x := x13 (LV CV) a0 ⟨[], m.next, m.next, 0⟩) (by kernel_rfl) h
/-- noonmark/noonmarklaw05.digit -/
def x14 (O : Orc) (a0 : Value) (m : Mem) : Option Out :=
(aBin .add (.int .i64 (48)) a0).bind fun v0 =>
(aInt .u8 v0).bind fun v1 =>
(vLit 1 1 [(.int .u8 (0))] [(0, v1)] m).bind fun r2 =>
(vStr r2.1 r2.2).bind fun v3 =>
some ⟨.ret, [v3], r2.2, []⟩
theorem R14 {a0 : Value} {m : Mem} {r : Out} (h : (x14 (LV CV) a0 ⟨[], m.next, m.next, 0⟩).bind (close m) = some r) (hc : [a0].all (clo FUEL) = true := by simp) : LV CV (.call 14) [a0] m [] = some r := R_callP (C := CV) (fn := ir14) rfl rfl rfl (Nat.le_of_ble_eq_true rfl) hc (x := x14 (LV CV) a0 ⟨[], m.next, m.next, 0⟩) (by kernel_rfl) h
/-- noonmark/noonmarkref05.Show -/
def x15 (O : Orc) (a0 : Value) (m : Mem) : Option Out :=
if known a0 = true then letK ((m).push ⟨0, (Value.cells a0).toList⟩) fun m0 =>
(vFieldAddr 0 (.pointer (some ⟨(m).next, 0, none⟩))).bind fun v1 =>
(vLd 1 false v1 m0).bind fun v2 =>
(aBin .lss v2 (.int .i64 (-604799))).bind fun v3 =>
br v3 (
some ⟨.ret, [.tuple [(S []), (.int .i64 (1))].toArray], m0, []⟩) (
(vFieldAddr 0 (.pointer (some ⟨(m).next, 0, none⟩))).bind fun v4 =>
(vLd 1 false v4 m0).bind fun v5 =>
(aBin .gtr v5 (.int .i64 (604799))).bind fun v6 =>
br v6 (
some ⟨.ret, [.tuple [(S []), (.int .i64 (1))].toArray], m0, []⟩) (
(vFieldAddr 1 (.pointer (some ⟨(m).next, 0, none⟩))).bind fun v7 =>
(vLd 1 false v7 m0).bind fun v8 =>
(aBin .lss v8 (.int .i64 (0))).bind fun v9 =>
br v9 (
some ⟨.ret, [.tuple [(S []), (.int .i64 (1))].toArray], m0, []⟩) (
(vFieldAddr 1 (.pointer (some ⟨(m).next, 0, none⟩))).bind fun v10 =>
(vLd 1 false v10 m0).bind fun v11 =>
(aBin .gtr v11 (.int .i64 (2))).bind fun v12 =>
br v12 (
some ⟨.ret, [.tuple [(S []), (.int .i64 (1))].toArray], m0, []⟩) (
(vFieldAddr 0 (.pointer (some ⟨(m).next, 0, none⟩))).bind fun v13 =>
(vLd 1 false v13 m0).bind fun v14 =>
retK (O (.call 22) [v14] ((m0).floor (m0).next) []) (fun v15 m16 =>
(vLit 1 3 [(S [])] [(0, (S [])), (1, (S [115])), (2, (S [117]))] (m16.floor (m0).lo)).bind fun r18 =>
(vFieldAddr 1 (.pointer (some ⟨(m).next, 0, none⟩))).bind fun v19 =>
(vLd 1 false v19 r18.2).bind fun v20 =>
(vIdx 1 r18.1 v20).bind fun v21 =>
(vLd 1 false v21 r18.2).bind fun v22 =>
(aBin .add v15 v22).bind fun v23 =>
some ⟨.ret, [.tuple [v23, (.int .i64 (0))].toArray], r18.2, []⟩) (fun p17 m24 => none))))) else none
theorem R15 {a0 : Value} {m : Mem} {r : Out} (h : (x15 (LV CV) a0 ⟨[], m.next, m.next, 0⟩).bind (close m) = some r) (hc : [a0].all (clo FUEL) = true := by simp) : LV CV (.call 15) [a0] m [] = some r := R_callP (C := CV) (fn := ir15) rfl rfl rfl (Nat.le_of_ble_eq_true rfl) hc (x := x15 (LV CV) a0 ⟨[], m.next, m.next, 0⟩) (by kernel_rfl) h
/-- noonmark/clock.ShowAmount -/
def x16 (O : Orc) (a0 : Value) (m : Mem) : Option Out :=
(aBin .lss a0 (.int .i64 (-86400))).bind fun v0 =>
br v0 (
some ⟨.ret, [.tuple [(S []), (.int .i64 (1))].toArray], m, []⟩) (
(aBin .gtr a0 (.int .i64 (86400))).bind fun v1 =>
br v1 (
some ⟨.ret, [.tuple [(S []), (.int .i64 (1))].toArray], m, []⟩) (
retK (O (.call 21) [a0] m []) (fun v2 m3 =>
some ⟨.ret, [.tuple [v2, (.int .i64 (0))].toArray], m3, []⟩) (fun p4 m5 => some ⟨.panic p4, [], m5, []⟩)))
theorem R16 {a0 : Value} {m : Mem} {r : Out} (h : (x16 (LV CV) a0 ⟨[], m.next, m.next, 0⟩).bind (close m) = some r) (hc : [a0].all (clo FUEL) = true := by simp) : LV CV (.call 16) [a0] m [] = some r := R_callP (C := CV) (fn := ir16) rfl rfl rfl (Nat.le_of_ble_eq_true rfl) hc (x := x16 (LV CV) a0 ⟨[], m.next, m.next, 0⟩) (by kernel_rfl) h
/-- noonmark/noonmarkref05.ShowAmount -/
def x17 (O : Orc) (a0 : Value) (m : Mem) : Option Out :=
(aBin .lss a0 (.int .i64 (-86400))).bind fun v0 =>
br v0 (
some ⟨.ret, [.tuple [(S []), (.int .i64 (1))].toArray], m, []⟩) (
(aBin .gtr a0 (.int .i64 (86400))).bind fun v1 =>
br v1 (
some ⟨.ret, [.tuple [(S []), (.int .i64 (1))].toArray], m, []⟩) (
retK (O (.call 22) [a0] m []) (fun v2 m3 =>
some ⟨.ret, [.tuple [v2, (.int .i64 (0))].toArray], m3, []⟩) (fun p4 m5 => some ⟨.panic p4, [], m5, []⟩)))
theorem R17 {a0 : Value} {m : Mem} {r : Out} (h : (x17 (LV CV) a0 ⟨[], m.next, m.next, 0⟩).bind (close m) = some r) (hc : [a0].all (clo FUEL) = true := by simp) : LV CV (.call 17) [a0] m [] = some r := R_callP (C := CV) (fn := ir17) rfl rfl rfl (Nat.le_of_ble_eq_true rfl) hc (x := x17 (LV CV) a0 ⟨[], m.next, m.next, 0⟩) (by kernel_rfl) h
/-- noonmark/clock.suffix -/
def x18 (O : Orc) (a0 : Value) (m : Mem) : Option Out :=
(aLenS a0).bind fun v0 =>
(aBin .lss v0 (.int .i64 (2))).bind fun v1 =>
br v1 (
some ⟨.ret, [.tuple [a0, (.int .i64 (0))].toArray], m, []⟩) (
(aLenS a0).bind fun v2 =>
(aBin .sub v2 (.int .i64 (1))).bind fun v3 =>
(aCutStr a0 none (some v3)).bind fun v4 =>
(aLenS a0).bind fun v5 =>
(aBin .sub v5 (.int .i64 (1))).bind fun v6 =>
(aByte a0 v6).bind fun v7 =>
(aBin .eql v7 (.int .u8 (119))).bind fun v8 =>
br v8 (
some ⟨.ret, [.tuple [v4, (.int .i64 (0))].toArray], m, []⟩) (
(aBin .eql v7 (.int .u8 (115))).bind fun v9 =>
br v9 (
some ⟨.ret, [.tuple [v4, (.int .i64 (1))].toArray], m, []⟩) (
cutN (
(aBin .eql v7 (.int .u8 (117))).bind fun v15 =>
br v15 (
some ⟨.normal, [a0, v4, v15], m, []⟩) (
(aBin .eql v7 (.int .u8 (103))).bind fun v16 =>
br v16 (
some ⟨.normal, [a0, v4, v16], m, []⟩) (
(aBin .eql v7 (.int .u8 (122))).bind fun v17 =>
some ⟨.normal, [a0, v4, v17], m, []⟩))) (fun w10 m11 =>
br (w10.getD 2 undef) (
some ⟨.ret, [.tuple [(w10.getD 1 undef), (.int .i64 (2))].toArray], m11, []⟩) (
some ⟨.ret, [.tuple [(w10.getD 0 undef), (.int .i64 (0))].toArray], m11, []⟩)) (fun id13 w10 m11 =>
if id13 = 0 then
some ⟨.ret, [.tuple [(w10.getD 0 undef), (.int .i64 (0))].toArray], m11, []⟩ else
none) (fun w10 m11 =>
some ⟨.ret, [.tuple [undef, undef].toArray], m11, []⟩) (fun p14 w10 m11 =>
some ⟨.panic p14, [], m11, []⟩))))
theorem R18 {a0 : Value} {m : Mem} {r : Out} (h : (x18 (LV CV) a0 ⟨[], m.next, m.next, 0⟩).bind (close m) = some r) (hc : [a0].all (clo FUEL) = true := by simp) : LV CV (.call 18) [a0] m [] = some r := R_callP (C := CV) (fn := ir18) rfl rfl rfl (Nat.le_of_ble_eq_true rfl) hc (x := x18 (LV CV) a0 ⟨[], m.next, m.next, 0⟩) (by kernel_rfl) h
def y1900 (O : Orc) (b0 b1 b2 b3 b4 b5 b6 : Value) (m : Mem) (d : List Dfr) : Option Out :=
(aBin .lss b6 (.int .i64 (2))).bind fun v0 =>
br v0 (
(aElem false 2 1 b5 b6).bind fun v1 =>
(aBin .lss b6 b3).bind fun v2 =>
br v2 (
(vLd 1 false b0 m).bind fun v3 =>
retK (O (.call 26) [b4, (.int .i64 (2)), (.int .i64 (2)), (.int .i64 (59))] m []) (fun v4 m5 =>
peekK (Mem.next m) (vLd 1 false b0 m5) v3 (
(aBin .mul v4 v1).bind fun v7 =>
(aBin .add v3 v7).bind fun v8 =>
(aSt 1 b0 v8 m5).bind fun m9 =>
(aBin .add b6 (.int .i64 (1))).bind fun v10 =>
O (.loop 1900) [b0, b1, b2, b3, b4, b5, v10] m9 d)) (fun p6 m11 => some ⟨.panic p6, [b0, b1, b2, b3, b4, b5, b6], m11, d⟩)) (
(aBin .add b6 (.int .i64 (1))).bind fun v12 =>
O (.loop 1900) [b0, b1, b2, b3, b4, b5, v12] m d)) (
some ⟨.exit 0, [b0, b1, b2, b3, b4, b5, b6], m, d⟩)
theorem Q1900 {b0 b1 b2 b3 b4 b5 b6 : Value} {m : Mem} (d : List Dfr) {r : Out} (h : y1900 (LV CV) b0 b1 b2 b3 b4 b5 b6 m d = some r) : LV CV (.loop 1900) [b0, b1, b2, b3, b4, b5, b6] m d = some r := R_loopV (C := CV) (keep := [2, 3, 4, 5, 6, 25, 26]) (b := lb1900) rfl (x := y1900 (LV CV) b0 b1 b2 b3 b4 b5 b6 m d) (by kernel_rfl) h
/-- noonmark/clock.seconds -/
def x19 (O : Orc) (a0 : Value) (m : Mem) : Option Out :=
letK ((m).push ⟨0, [(.int .i64 (0))]⟩) fun m0 =>
letK ((m0).push ⟨0, [(.int .i64 (0))]⟩) fun m1 =>
letK (.func (.func 23) [].toArray [(.pointer (some ⟨(m).next, 0, none⟩)), (.pointer (some ⟨(m0).next, 0, none⟩))].toArray : Value) fun v2 =>
(fn? v2).bind fun c3 => (aBin .eql a0 (S [45])).bind fun v4 =>
br v4 (
(aSt 1 (.pointer (some ⟨(m).next, 0, none⟩)) (.int .i64 (0)) m1).bind fun m5 =>
(aSt 1 (.pointer (some ⟨(m0).next, 0, none⟩)) (.int .i64 (0)) m5).bind fun m6 =>
leavesV O ir19 (put (put (put (put (put (envOf [a0]) (some 2) (.pointer (some ⟨(m).next, 0, none⟩))) (some 3) (.pointer (some ⟨(m0).next, 0, none⟩))) (some 9) v2) (some 10) a0) (some 11) v4) (⟨c3.1, c3.2.1 ++ [] ++ c3.2.2⟩ :: []) none m6) (
retK (O (.call 24) [a0, (S [45])] m1 []) (fun v7 m8 =>
(aExtract 0 v7).bind fun v10 =>
(aExtract 1 v7).bind fun v11 =>
retK (O (.call 25) [v10, (S [58])] m8 []) (fun v12 m13 =>
cutD (⟨c3.1, c3.2.1 ++ [] ++ c3.2.2⟩ :: []) (
(aBin .gtr v12 (.int .i64 (2))).bind fun v20 =>
br v20 (
(vIface 25 (.int .i64 (7))).bind fun v21 =>
panV v21 fun p22 => some ⟨.panic p22, [v10, (.pointer (some ⟨(m).next, 0, none⟩)), (.pointer (some ⟨(m0).next, 0, none⟩)), v11, v12], m13, (⟨c3.1, c3.2.1 ++ [] ++ c3.2.2⟩ :: [])⟩) (
some ⟨.normal, [v10, (.pointer (some ⟨(m).next, 0, none⟩)), (.pointer (some ⟨(m0).next, 0, none⟩)), v11, v12], m13, (⟨c3.1, c3.2.1 ++ [] ++ c3.2.2⟩ :: [])⟩)) (fun w15 m16 d17 =>
letK ((m16).push ⟨0, [(S [])]⟩) fun m23 =>
(aSt 1 (.pointer (some ⟨(m16).next, 0, none⟩)) (w15.getD 0 undef) m23).bind fun m24 =>
retK (O (.call 26) [(.pointer (some ⟨(m16).next, 0, none⟩)), (.int .i64 (1)), (.int .i64 (3)), (.int .i64 (167))] m24 []) (fun v25 m26 =>
(aBin .mul v25 (.int .i64 (3600))).bind fun v28 =>
(aSt 1 (w15.getD 1 undef) v28 m26).bind fun m29 =>
(aBuild [(0, 1), (1, 1)] [(.int .i64 (0)), (.int .i64 (0))] [(0, (.int .i64 (60))), (1, (.int .i64 (1)))]).bind fun v30 =>
lpD d17 (O (.loop 1900) [(w15.getD 1 undef), (w15.getD 2 undef), (w15.getD 3 undef), (w15.getD 4 undef), (.pointer (some ⟨(m16).next, 0, none⟩)), v30, (.int .i64 (0))] m29 d17) (fun id34 w31 m32 d33 =>
if id34 = 0 then
br (w31.getD 2 undef) (
(vLd 1 false (w31.getD 0 undef) m32).bind fun v36 =>
(aUn .neg v36).bind fun v37 =>
(aSt 1 (w31.getD 0 undef) v37 m32).bind fun m38 =>
(vLd 1 false (w31.getD 0 undef) m38).bind fun v39 =>
(aSt 1 (w31.getD 0 undef) v39 m38).bind fun m40 =>
(aSt 1 (w31.getD 1 undef) (.int .i64 (0)) m40).bind fun m41 =>
leavesV O ir19 (put (put (put (put (unpack [2, 3, 4, 5, 6, 25, 26] w31) (some 39) (w31.getD 2 undef)) (some 40) v36) (some 41) v37) (some 42) v39) d33 none m41) (
(vLd 1 false (w31.getD 0 undef) m32).bind fun v42 =>
(aSt 1 (w31.getD 0 undef) v42 m32).bind fun m43 =>
(aSt 1 (w31.getD 1 undef) (.int .i64 (0)) m43).bind fun m44 =>
leavesV O ir19 (put (put (unpack [2, 3, 4, 5, 6, 25, 26] w31) (some 39) (w31.getD 2 undef)) (some 42) v42) d33 none m44) else
none) (fun w31 m32 d33 =>
leavesV O ir19 (unpack [2, 3, 4, 5, 6, 25, 26] w31) d33 none m32) (fun p35 w31 m32 d33 =>
leavesV O ir19 (unpack [2, 3, 4, 5, 6, 25, 26] w31) d33 (some p35) m32)) (fun p27 m45 => leavesV O ir19 (put (put (unpack [0, 2, 3, 4, 5] w15) (some 22) (w15.getD 0 undef)) (some 6) (.pointer (some ⟨(m16).next, 0, none⟩))) d17 (some p27) m45)) (fun id18 w15 m16 d17 =>
none) (fun w15 m16 d17 =>
leavesV O ir19 (unpack [0, 2, 3, 4, 5] w15) d17 none m16) (fun p19 w15 m16 d17 =>
leavesV O ir19 (unpack [0, 2, 3, 4, 5] w15) d17 (some p19) m16)) (fun p14 m46 => leavesV O ir19 (put (put (put (put (put (put (put (put (put (put (put (put (put (envOf [a0]) (some 2) (.pointer (some ⟨(m).next, 0, none⟩))) (some 3) (.pointer (some ⟨(m0).next, 0, none⟩))) (some 9) v2) (some 10) a0) (some 11) v4) (some 13) a0) (some 14) v7) (some 12) v7) (some 15) v10) (some 16) v11) (some 0) v10) (some 4) v11) (some 17) v10) (⟨c3.1, c3.2.1 ++ [] ++ c3.2.2⟩ :: []) (some p14) m46)) (fun p9 m47 => leavesV O ir19 (put (put (put (put (put (put (envOf [a0]) (some 2) (.pointer (some ⟨(m).next, 0, none⟩))) (some 3) (.pointer (some ⟨(m0).next, 0, none⟩))) (some 9) v2) (some 10) a0) (some 11) v4) (some 13) a0) (⟨c3.1, c3.2.1 ++ [] ++ c3.2.2⟩ :: []) (some p9) m47))
theorem R19 {a0 : Value} {m : Mem} {r : Out} (h : (x19 (LV CV) a0 ⟨[], m.next, m.next, 0⟩).bind (close m) = some r) (hc : [a0].all (clo FUEL) = true := by simp) : LV CV (.call 19) [a0] m [] = some r := R_callP (C := CV) (fn := ir19) rfl rfl rfl (Nat.le_of_ble_eq_true rfl) hc (x := x19 (LV CV) a0 ⟨[], m.next, m.next, 0⟩) (by kernel_rfl) h
def y2000 (O : Orc) (b0 b1 b2 b3 b4 : Value) (m : Mem) : Option Out :=
(aBin .lss b4 (.int .i64 (3))).bind fun v0 =>
br v0 (
(vLenL b1).bind fun v1 =>
(aBin .lss b4 v1).bind fun v2 =>
br v2 (
(vIdx 1 b1 b4).bind fun v3 =>
(vLd 1 false v3 m).bind fun v4 =>
retK (O (.call 28) [v4, (.int .i64 (2)), (.int .i64 (2)), (.int .i64 (59))] m []) (fun v5 m6 =>
br b3 (
(aBin .mul b2 (.int .i64 (60))).bind fun v8 =>
(aBin .add v8 v5).bind fun v9 =>
(aBin .add b4 (.int .i64 (1))).bind fun v10 =>
O (.loop 2000) [b0, b1, v9, (.bool true), v10] m6 []) (
(aBin .lss v5 (.int .i64 (0))).bind fun v11 =>
(aBin .mul b2 (.int .i64 (60))).bind fun v12 =>
(aBin .add v12 v5).bind fun v13 =>
(aBin .add b4 (.int .i64 (1))).bind fun v14 =>
O (.loop 2000) [b0, b1, v13, v11, v14] m6 [])) (fun p7 m15 => some ⟨.panic p7, [b0, b1, b2, b3, b4], m15, []⟩)) (
br b3 (
(aBin .mul b2 (.int .i64 (60))).bind fun v16 =>
(aBin .add v16 (.int .i64 (0))).bind fun v17 =>
(aBin .add b4 (.int .i64 (1))).bind fun v18 =>
O (.loop 2000) [b0, b1, v17, (.bool true), v18] m []) (
(aBin .lss (.int .i64 (0)) (.int .i64 (0))).bind fun v19 =>
(aBin .mul b2 (.int .i64 (60))).bind fun v20 =>
(aBin .add v20 (.int .i64 (0))).bind fun v21 =>
(aBin .add b4 (.int .i64 (1))).bind fun v22 =>
O (.loop 2000) [b0, b1, v21, v19, v22] m []))) (
some ⟨.exit 0, [b0, b1, b2, b3, b4], m, []⟩)
theorem Q2000 {b0 b1 b2 b3 b4 : Value} {m : Mem} {r : Out} (h : y2000 (LV CV) b0 b1 b2 b3 b4 m = some r) : LV CV (.loop 2000) [b0, b1, b2, b3, b4] m [] = some r := R_loopV (C := CV) (keep := [4, 5, 6, 7, 8]) (b := lb2000) rfl (x := y2000 (LV CV) b0 b1 b2 b3 b4 m) (by kernel_rfl) h
/-- noonmark/noonmarkref05.time -/
def x20 (O : Orc) (a0 : Value) (m : Mem) : Option Out :=
(aBin .eql a0 (S [45])).bind fun v0 =>
br v0 (
some ⟨.ret, [.tuple [(.int .i64 (0)), (.bool true)].toArray], m, []⟩) (
(aLenS a0).bind fun v1 =>
(aBin .gtr v1 (.int .i64 (0))).bind fun v2 =>
br v2 (
(aByte a0 (.int .i64 (0))).bind fun v3 =>
(aBin .eql v3 (.int .u8 (45))).bind fun v4 =>
cutN (
br v4 (
(aCutStr a0 (some (.int .i64 (1))) none).bind fun v10 =>
some ⟨.normal, [v10, v4], m, []⟩) (
some ⟨.normal, [a0, v4], m, []⟩)) (fun w5 m6 =>
retK (O (.call 27) [(w5.getD 0 undef)] m6 []) (fun v11 m12 =>
(vLenL v11).bind fun v14 =>
(aBin .gtr v14 (.int .i64 (3))).bind fun v15 =>
br v15 (
some ⟨.ret, [.tuple [(.int .i64 (0)), (.bool false)].toArray], m12, []⟩) (
(vIdx 1 v11 (.int .i64 (0))).bind fun v16 =>
(vLd 1 false v16 m12).bind fun v17 =>
retK (O (.call 28) [v17, (.int .i64 (1)), (.int .i64 (3)), (.int .i64 (167))] m12 []) (fun v18 m19 =>
(aBin .lss v18 (.int .i64 (0))).bind fun v21 =>
lpN (O (.loop 2000) [(w5.getD 1 undef), v11, v18, v21, (.int .i64 (1))] m19 []) (fun id25 w22 m23 =>
if id25 = 0 then
br (w22.getD 3 undef) (
some ⟨.ret, [.tuple [(.int .i64 (0)), (.bool false)].toArray], m23, []⟩) (
br (w22.getD 0 undef) (
(aUn .neg (w22.getD 2 undef)).bind fun v27 =>
some ⟨.ret, [.tuple [v27, (.bool true)].toArray], m23, []⟩) (
some ⟨.ret, [.tuple [(w22.getD 2 undef), (.bool true)].toArray], m23, []⟩)) else
none) (fun w22 m23 =>
some ⟨.ret, [.tuple [undef, undef].toArray], m23, []⟩) (fun p26 w22 m23 =>
some ⟨.panic p26, [], m23, []⟩)) (fun p20 m28 => some ⟨.panic p20, [], m28, []⟩))) (fun p13 m29 => some ⟨.panic p13, [], m29, []⟩)) (fun id8 w5 m6 =>
none) (fun w5 m6 =>
some ⟨.ret, [.tuple [undef, undef].toArray], m6, []⟩) (fun p9 w5 m6 =>
some ⟨.panic p9, [], m6, []⟩)) (
cutN (
some ⟨.normal, [a0, (.bool false)], m, []⟩) (fun w30 m31 =>
retK (O (.call 27) [(w30.getD 0 undef)] m31 []) (fun v35 m36 =>
(vLenL v35).bind fun v38 =>
(aBin .gtr v38 (.int .i64 (3))).bind fun v39 =>
br v39 (
some ⟨.ret, [.tuple [(.int .i64 (0)), (.bool false)].toArray], m36, []⟩) (
(vIdx 1 v35 (.int .i64 (0))).bind fun v40 =>
(vLd 1 false v40 m36).bind fun v41 =>
retK (O (.call 28) [v41, (.int .i64 (1)), (.int .i64 (3)), (.int .i64 (167))] m36 []) (fun v42 m43 =>
(aBin .lss v42 (.int .i64 (0))).bind fun v45 =>
lpN (O (.loop 2000) [(w30.getD 1 undef), v35, v42, v45, (.int .i64 (1))] m43 []) (fun id49 w46 m47 =>
if id49 = 0 then
br (w46.getD 3 undef) (
some ⟨.ret, [.tuple [(.int .i64 (0)), (.bool false)].toArray], m47, []⟩) (
br (w46.getD 0 undef) (
(aUn .neg (w46.getD 2 undef)).bind fun v51 =>
some ⟨.ret, [.tuple [v51, (.bool true)].toArray], m47, []⟩) (
some ⟨.ret, [.tuple [(w46.getD 2 undef), (.bool true)].toArray], m47, []⟩)) else
none) (fun w46 m47 =>
some ⟨.ret, [.tuple [undef, undef].toArray], m47, []⟩) (fun p50 w46 m47 =>
some ⟨.panic p50, [], m47, []⟩)) (fun p44 m52 => some ⟨.panic p44, [], m52, []⟩))) (fun p37 m53 => some ⟨.panic p37, [], m53, []⟩)) (fun id33 w30 m31 =>
none) (fun w30 m31 =>
some ⟨.ret, [.tuple [undef, undef].toArray], m31, []⟩) (fun p34 w30 m31 =>
some ⟨.panic p34, [], m31, []⟩)))
theorem R20 {a0 : Value} {m : Mem} {r : Out} (h : (x20 (LV CV) a0 ⟨[], m.next, m.next, 0⟩).bind (close m) = some r) (hc : [a0].all (clo FUEL) = true := by simp) : LV CV (.call 20) [a0] m [] = some r := R_callP (C := CV) (fn := ir20) rfl rfl rfl (Nat.le_of_ble_eq_true rfl) hc (x := x20 (LV CV) a0 ⟨[], m.next, m.next, 0⟩) (by kernel_rfl) h
/-- noonmark/clock.text -/
def x21 (O : Orc) (a0 : Value) (m : Mem) : Option Out :=
cutN (
(aBin .lss a0 (.int .i64 (0))).bind fun v5 =>
br v5 (
(aUn .neg a0).bind fun v6 =>
some ⟨.normal, [v6, (S [45])], m, []⟩) (
some ⟨.normal, [a0, (S [])], m, []⟩)) (fun w0 m1 =>
(aBin .quo (w0.getD 0 undef) (.int .i64 (3600))).bind fun v7 =>
retK (O (.call 29) [v7] m1 []) (fun v8 m9 =>
(aBin .quo (w0.getD 0 undef) (.int .i64 (60))).bind fun v11 =>
(aBin .rem v11 (.int .i64 (60))).bind fun v12 =>
retK (O (.call 30) [v12] m9 []) (fun v13 m14 =>
(aBin .add v8 v13).bind fun v16 =>
(aBin .add (w0.getD 1 undef) v16).bind fun v17 =>
(aBin .rem (w0.getD 0 undef) (.int .i64 (60))).bind fun v18 =>
(aBin .gtr v18 (.int .i64 (0))).bind fun v19 =>
br v19 (
(aBin .rem (w0.getD 0 undef) (.int .i64 (60))).bind fun v20 =>
retK (O (.call 30) [v20] m14 []) (fun v21 m22 =>
(aBin .add v17 v21).bind fun v24 =>
some ⟨.ret, [v24], m22, []⟩) (fun p23 m25 => some ⟨.panic p23, [], m25, []⟩)) (
some ⟨.ret, [v17], m14, []⟩)) (fun p15 m26 => some ⟨.panic p15, [], m26, []⟩)) (fun p10 m27 => some ⟨.panic p10, [], m27, []⟩)) (fun id3 w0 m1 =>
none) (fun w0 m1 =>
some ⟨.ret, [undef], m1, []⟩) (fun p4 w0 m1 =>
some ⟨.panic p4, [], m1, []⟩)
theorem R21 {a0 : Value} {m : Mem} {r : Out} (h : (x21 (LV CV) a0 ⟨[], m.next, m.next, 0⟩).bind (close m) = some r) (hc : [a0].all (clo FUEL) = true := by simp) : LV CV (.call 21) [a0] m [] = some r := R_callP (C := CV) (fn := ir21) rfl rfl rfl (Nat.le_of_ble_eq_true rfl) hc (x := x21 (LV CV) a0 ⟨[], m.next, m.next, 0⟩) (by kernel_rfl) h
/-- noonmark/noonmarkref05.shown -/
def x22 (O : Orc) (a0 : Value) (m : Mem) : Option Out :=
cutN (
(aBin .lss a0 (.int .i64 (0))).bind fun v5 =>
br v5 (
(aUn .neg a0).bind fun v6 =>
some ⟨.normal, [v6, (S [45])], m, []⟩) (
some ⟨.normal, [a0, (S [])], m, []⟩)) (fun w0 m1 =>
(aBin .quo (w0.getD 0 undef) (.int .i64 (3600))).bind fun v7 =>
retK (O (.call 31) [v7] m1 []) (fun v8 m9 =>
(aBin .add (w0.getD 1 undef) v8).bind fun v11 =>
(aBin .quo (w0.getD 0 undef) (.int .i64 (60))).bind fun v12 =>
(aBin .rem v12 (.int .i64 (60))).bind fun v13 =>
retK (O (.call 32) [v13] m9 []) (fun v14 m15 =>
(aBin .add v11 v14).bind fun v17 =>
(aBin .rem (w0.getD 0 undef) (.int .i64 (60))).bind fun v18 =>
(aBin .neq v18 (.int .i64 (0))).bind fun v19 =>
br v19 (
(aBin .rem (w0.getD 0 undef) (.int .i64 (60))).bind fun v20 =>
retK (O (.call 32) [v20] m15 []) (fun v21 m22 =>
(aBin .add v17 v21).bind fun v24 =>
some ⟨.ret, [v24], m22, []⟩) (fun p23 m25 => some ⟨.panic p23, [], m25, []⟩)) (
some ⟨.ret, [v17], m15, []⟩)) (fun p16 m26 => some ⟨.panic p16, [], m26, []⟩)) (fun p10 m27 => some ⟨.panic p10, [], m27, []⟩)) (fun id3 w0 m1 =>
none) (fun w0 m1 =>
some ⟨.ret, [undef], m1, []⟩) (fun p4 w0 m1 =>
some ⟨.panic p4, [], m1, []⟩)
theorem R22 {a0 : Value} {m : Mem} {r : Out} (h : (x22 (LV CV) a0 ⟨[], m.next, m.next, 0⟩).bind (close m) = some r) (hc : [a0].all (clo FUEL) = true := by simp) : LV CV (.call 22) [a0] m [] = some r := R_callP (C := CV) (fn := ir22) rfl rfl rfl (Nat.le_of_ble_eq_true rfl) hc (x := x22 (LV CV) a0 ⟨[], m.next, m.next, 0⟩) (by kernel_rfl) h
/-- noonmark/clock.seconds$1 -/
def x23 (O : Orc) (m : Mem) : Option Out :=
none
theorem R23 {m : Mem} {r : Out} (h : x23 (LV CV)  m = some r) : LV CV (.call 23) [] m [] = some r := R_callV (C := CV) (fn := ir23) rfl rfl rfl (Nat.le_of_ble_eq_true rfl) (x := x23 (LV CV)  m) (by kernel_rfl) h
/-- strings.CutPrefix -/
def x24 (O : Orc) (a0 a1 : Value) (m : Mem) : Option Out :=
retK (O (.call 33) [a0, a1] m []) (fun v0 m1 =>
(aExtract 0 v0).bind fun v3 =>
(aExtract 1 v0).bind fun v4 =>
some ⟨.ret, [.tuple [v3, v4].toArray], m1, []⟩) (fun p2 m5 => some ⟨.panic p2, [], m5, []⟩)
theorem R24 {a0 a1 : Value} {m : Mem} {r : Out} (h : (x24 (LV CV) a0 a1 ⟨[], m.next, m.next, 0⟩).bind (close m) = some r) (hc : [a0, a1].all (clo FUEL) = true := by simp) : LV CV (.call 24) [a0, a1] m [] = some r := R_callP (C := CV) (fn := ir24) rfl rfl rfl (Nat.le_of_ble_eq_true rfl) hc (x := x24 (LV CV) a0 a1 ⟨[], m.next, m.next, 0⟩) (by kernel_rfl) h
def y2600 (O : Orc) (b0 b1 b2 b3 b4 b5 b6 b7 : Value) (m : Mem) : Option Out :=
(aBin .lss b7 b6).bind fun v0 =>
br v0 (
(vIdx 1 b5 b7).bind fun v1 =>
(vLd 1 false v1 m).bind fun v2 =>
cutN (
(aBin .lss v2 (.int .u8 (48))).bind fun v8 =>
br v8 (
(vIface 25 (.int .i64 (7))).bind fun v9 =>
panV v9 fun p10 => some ⟨.panic p10, [b0, b1, b2, b3, b4, v2, b5, b6, b7], m, []⟩) (
(aBin .gtr v2 (.int .u8 (57))).bind fun v11 =>
br v11 (
(vIface 25 (.int .i64 (7))).bind fun v12 =>
panV v12 fun p13 => some ⟨.panic p13, [b0, b1, b2, b3, b4, v2, b5, b6, b7], m, []⟩) (
some ⟨.normal, [b0, b1, b2, b3, b4, v2, b5, b6, b7], m, []⟩))) (fun w3 m4 =>
(aBin .mul (w3.getD 4 undef) (.int .i64 (10))).bind fun v14 =>
(aBin .sub (w3.getD 5 undef) (.int .u8 (48))).bind fun v15 =>
(aInt .i64 v15).bind fun v16 =>
(aBin .add v14 v16).bind fun v17 =>
(aBin .gtr v17 (w3.getD 2 undef)).bind fun v18 =>
br v18 (
(vIface 25 (.int .i64 (7))).bind fun v19 =>
panV v19 fun p20 => some ⟨.panic p20, [(w3.getD 0 undef), (w3.getD 1 undef), (w3.getD 2 undef), (w3.getD 3 undef), v17, (w3.getD 6 undef), (w3.getD 7 undef), (w3.getD 8 undef)], m4, []⟩) (
(aBin .add (w3.getD 8 undef) (.int .i64 (1))).bind fun v21 =>
O (.loop 2600) [(w3.getD 0 undef), (w3.getD 1 undef), (w3.getD 2 undef), (w3.getD 3 undef), v17, (w3.getD 6 undef), (w3.getD 7 undef), v21] m4 [])) (fun id6 w3 m4 =>
if id6 = 1 then
(aBin .add (w3.getD 8 undef) (.int .i64 (1))).bind fun v22 =>
O (.loop 2600) [(w3.getD 0 undef), (w3.getD 1 undef), (w3.getD 2 undef), (w3.getD 3 undef), (w3.getD 4 undef), (w3.getD 6 undef), (w3.getD 7 undef), v22] m4 [] else
some ⟨.exit id6, [(w3.getD 0 undef), (w3.getD 1 undef), (w3.getD 2 undef), (w3.getD 3 undef), (w3.getD 4 undef), (w3.getD 6 undef), (w3.getD 7 undef), (w3.getD 8 undef)], m4, []⟩) (fun w3 m4 =>
some ⟨.ret, [(w3.getD 0 undef), (w3.getD 1 undef), (w3.getD 2 undef), (w3.getD 3 undef), (w3.getD 4 undef), (w3.getD 6 undef), (w3.getD 7 undef), (w3.getD 8 undef)], m4, []⟩) (fun p7 w3 m4 =>
some ⟨.panic p7, [(w3.getD 0 undef), (w3.getD 1 undef), (w3.getD 2 undef), (w3.getD 3 undef), (w3.getD 4 undef), (w3.getD 6 undef), (w3.getD 7 undef), (w3.getD 8 undef)], m4, []⟩)) (
some ⟨.exit 0, [b0, b1, b2, b3, b4, b5, b6, b7], m, []⟩)
theorem Q2600 {b0 b1 b2 b3 b4 b5 b6 b7 : Value} {m : Mem} {r : Out} (h : y2600 (LV CV) b0 b1 b2 b3 b4 b5 b6 b7 m = some r) : LV CV (.loop 2600) [b0, b1, b2, b3, b4, b5, b6, b7] m [] = some r := R_loopV (C := CV) (keep := [1, 2, 3, 9, 10, 16, 17, 18]) (b := lb2600) rfl (x := y2600 (LV CV) b0 b1 b2 b3 b4 b5 b6 b7 m) (by kernel_rfl) h
/-- (*noonmark/clock.reader).number -/
def x26 (O : Orc) (a0 a1 a2 a3 : Value) (m : Mem) : Option Out :=
retK (O (.call 37) [a0] m []) (fun v0 m1 =>
(aBytes v0 m1).bind fun r3 =>
(vLenL r3.1).bind fun v4 =>
lpN (O (.loop 2600) [a1, a2, a3, v0, (.int .i64 (0)), r3.1, v4, (.int .i64 (0))] r3.2 []) (fun id8 w5 m6 =>
if id8 = 0 then
(aLenS (w5.getD 3 undef)).bind fun v10 =>
(aBin .lss v10 (w5.getD 0 undef)).bind fun v11 =>
br v11 (
(vIface 25 (.int .i64 (7))).bind fun v12 =>
panV v12 fun p13 => some ⟨.panic p13, [], m6, []⟩) (
(aLenS (w5.getD 3 undef)).bind fun v14 =>
(aBin .gtr v14 (w5.getD 1 undef)).bind fun v15 =>
br v15 (
(vIface 25 (.int .i64 (7))).bind fun v16 =>
panV v16 fun p17 => some ⟨.panic p17, [], m6, []⟩) (
some ⟨.ret, [(w5.getD 4 undef)], m6, []⟩)) else
none) (fun w5 m6 =>
some ⟨.ret, [undef], m6, []⟩) (fun p9 w5 m6 =>
some ⟨.panic p9, [], m6, []⟩)) (fun p2 m18 => some ⟨.panic p2, [], m18, []⟩)
theorem R26 {a0 a1 a2 a3 : Value} {m : Mem} {r : Out} (h : x26 (LV CV) a0 a1 a2 a3 m = some r) : LV CV (.call 26) [a0, a1, a2, a3] m [] = some r := R_callV (C := CV) (fn := ir26) rfl rfl rfl (Nat.le_of_ble_eq_true rfl) (x := x26 (LV CV) a0 a1 a2 a3 m) (by kernel_rfl) h
def y2700 (O : Orc) (b0 b1 b2 b3 : Value) (m : Mem) : Option Out :=
(aLenS b0).bind fun v0 =>
(aBin .leq b3 v0).bind fun v1 =>
br v1 (
(aLenS b0).bind fun v2 =>
(aBin .eql b3 v2).bind fun v3 =>
br v3 (
(aCutStr b0 (some b2) (some b3)).bind fun v4 =>
(vLit 1 1 [(S [])] [(0, v4)] m).bind fun r5 =>
(vApp false 1 16 b1 r5.1 r5.2).bind fun r6 =>
(aBin .add b3 (.int .i64 (1))).bind fun v7 =>
(aBin .add b3 (.int .i64 (1))).bind fun v8 =>
O (.loop 2700) [b0, r6.1, v7, v8] r6.2 []) (
(aByte b0 b3).bind fun v9 =>
(aBin .eql v9 (.int .u8 (58))).bind fun v10 =>
br v10 (
(aCutStr b0 (some b2) (some b3)).bind fun v11 =>
(vLit 1 1 [(S [])] [(0, v11)] m).bind fun r12 =>
(vApp false 1 16 b1 r12.1 r12.2).bind fun r13 =>
(aBin .add b3 (.int .i64 (1))).bind fun v14 =>
(aBin .add b3 (.int .i64 (1))).bind fun v15 =>
O (.loop 2700) [b0, r13.1, v14, v15] r13.2 []) (
(aBin .add b3 (.int .i64 (1))).bind fun v16 =>
O (.loop 2700) [b0, b1, b2, v16] m []))) (
some ⟨.exit 0, [b0, b1, b2, b3], m, []⟩)
theorem Q2700 {b0 b1 b2 b3 : Value} {m : Mem} {r : Out} (h : y2700 (LV CV) b0 b1 b2 b3 m = some r) : LV CV (.loop 2700) [b0, b1, b2, b3] m [] = some r := R_loopV (C := CV) (keep := [0, 3, 4, 5]) (b := lb2700) rfl (x := y2700 (LV CV) b0 b1 b2 b3 m) (by kernel_rfl) h
/-- noonmark/noonmarkref05.parts -/
def x27 (O : Orc) (a0 : Value) (m : Mem) : Option Out :=
lpN (O (.loop 2700) [a0, (.slice none 0 0), (.int .i64 (0)), (.int .i64 (0))] m []) (fun id3 w0 m1 =>
if id3 = 0 then
some ⟨.ret, [(w0.getD 1 undef)], m1, []⟩ else
none) (fun w0 m1 =>
some ⟨.ret, [undef], m1, []⟩) (fun p4 w0 m1 =>
some ⟨.panic p4, [], m1, []⟩)
theorem R27 {a0 : Value} {m : Mem} {r : Out} (h : (x27 (LV CV) a0 ⟨[], m.next, m.next, 0⟩).bind (close m) = some r) (hc : [a0].all (clo FUEL) = true := by simp) : LV CV (.call 27) [a0] m [] = some r := R_callP (C := CV) (fn := ir27) rfl rfl rfl (Nat.le_of_ble_eq_true rfl) hc (x := x27 (LV CV) a0 ⟨[], m.next, m.next, 0⟩) (by kernel_rfl) h
def y2800 (O : Orc) (b0 b1 b2 b3 b4 : Value) (m : Mem) : Option Out :=
(aLenS b0).bind fun v0 =>
(aBin .lss b4 v0).bind fun v1 =>
br v1 (
(aByte b0 b4).bind fun v2 =>
(aBin .lss v2 (.int .u8 (48))).bind fun v3 =>
br v3 (
some ⟨.ret, [b0, b1, (.int .i64 (-1)), b3, b4], m, []⟩) (
(aByte b0 b4).bind fun v4 =>
(aBin .gtr v4 (.int .u8 (57))).bind fun v5 =>
br v5 (
some ⟨.ret, [b0, b1, (.int .i64 (-1)), b3, b4], m, []⟩) (
(aBin .mul b3 (.int .i64 (10))).bind fun v6 =>
(aByte b0 b4).bind fun v7 =>
(aBin .sub v7 (.int .u8 (48))).bind fun v8 =>
(aInt .i64 v8).bind fun v9 =>
(aBin .add v6 v9).bind fun v10 =>
(aBin .add b4 (.int .i64 (1))).bind fun v11 =>
O (.loop 2800) [b0, b1, b2, v10, v11] m []))) (
some ⟨.exit 0, [b0, b1, b2, b3, b4], m, []⟩)
theorem Q2800 {b0 b1 b2 b3 b4 : Value} {m : Mem} {r : Out} (h : y2800 (LV CV) b0 b1 b2 b3 b4 m = some r) : LV CV (.loop 2800) [b0, b1, b2, b3, b4] m [] = some r := R_loopV (C := CV) (keep := [0, 3, 8, 9, 10]) (b := lb2800) rfl (x := y2800 (LV CV) b0 b1 b2 b3 b4 m) (by kernel_rfl) h
/-- noonmark/noonmarkref05.number -/
def x28 (O : Orc) (a0 a1 a2 a3 : Value) (m : Mem) : Option Out :=
(aLenS a0).bind fun v0 =>
(aBin .lss v0 a1).bind fun v1 =>
br v1 (
some ⟨.ret, [(.int .i64 (-1))], m, []⟩) (
(aLenS a0).bind fun v2 =>
(aBin .gtr v2 a2).bind fun v3 =>
br v3 (
some ⟨.ret, [(.int .i64 (-1))], m, []⟩) (
lpN (O (.loop 2800) [a0, a3, (.int .i64 (0)), (.int .i64 (0)), (.int .i64 (0))] m []) (fun id7 w4 m5 =>
if id7 = 0 then
(aBin .gtr (w4.getD 3 undef) (w4.getD 1 undef)).bind fun v9 =>
br v9 (
some ⟨.ret, [(.int .i64 (-1))], m5, []⟩) (
some ⟨.ret, [(w4.getD 3 undef)], m5, []⟩) else
none) (fun w4 m5 =>
some ⟨.ret, [(w4.getD 2 undef)], m5, []⟩) (fun p8 w4 m5 =>
some ⟨.panic p8, [], m5, []⟩)))
theorem R28 {a0 a1 a2 a3 : Value} {m : Mem} {r : Out} (h : (x28 (LV CV) a0 a1 a2 a3 ⟨[], m.next, m.next, 0⟩).bind (close m) = some r) (hc : [a0, a1, a2, a3].all (clo FUEL) = true := by simp) : LV CV (.call 28) [a0, a1, a2, a3] m [] = some r := R_callP (C := CV) (fn := ir28) rfl rfl rfl (Nat.le_of_ble_eq_true rfl) hc (x := x28 (LV CV) a0 a1 a2 a3 ⟨[], m.next, m.next, 0⟩) (by kernel_rfl) h
/-- noonmark/clock.pair -/
def x30 (O : Orc) (a0 : Value) (m : Mem) : Option Out :=
(aBin .quo a0 (.int .i64 (10))).bind fun v0 =>
(aInt .u8 v0).bind fun v1 =>
(aBin .add (.int .u8 (48)) v1).bind fun v2 =>
(aBin .rem a0 (.int .i64 (10))).bind fun v3 =>
(aInt .u8 v3).bind fun v4 =>
(aBin .add (.int .u8 (48)) v4).bind fun v5 =>
(vLit 1 2 [(.int .u8 (0))] [(0, v2), (1, v5)] m).bind fun r6 =>
(vStr r6.1 r6.2).bind fun v7 =>
(aBin .add (S [58]) v7).bind fun v8 =>
some ⟨.ret, [v8], r6.2, []⟩
theorem R30 {a0 : Value} {m : Mem} {r : Out} (h : (x30 (LV CV) a0 ⟨[], m.next, m.next, 0⟩).bind (close m) = some r) (hc : [a0].all (clo FUEL) = true := by simp) : LV CV (.call 30) [a0] m [] = some r := R_callP (C := CV) (fn := ir30) rfl rfl rfl (Nat.le_of_ble_eq_true rfl) hc (x := x30 (LV CV) a0 ⟨[], m.next, m.next, 0⟩) (by kernel_rfl) h
/-- noonmark/noonmarkref02.Int -/
def x31 (O : Orc) (a0 : Value) (m : Mem) : Option Out :=
(aBin .lss a0 (.int .i64 (0))).bind fun v0 =>
br v0 (
retK (O (.call 39) [a0] m []) (fun v1 m2 =>
(aBin .add (S [45]) v1).bind fun v4 =>
some ⟨.ret, [v4], m2, []⟩) (fun p3 m5 => some ⟨.panic p3, [], m5, []⟩)) (
(aUn .neg a0).bind fun v6 =>
retK (O (.call 39) [v6] m []) (fun v7 m8 =>
some ⟨.ret, [v7], m8, []⟩) (fun p9 m10 => some ⟨.panic p9, [], m10, []⟩))
theorem R31 {a0 : Value} {m : Mem} {r : Out} (h : (x31 (LV CV) a0 ⟨[], m.next, m.next, 0⟩).bind (close m) = some r) (hc : [a0].all (clo FUEL) = true := by simp) : LV CV (.call 31) [a0] m [] = some r := R_callP (C := CV) (fn := ir31) rfl rfl rfl (Nat.le_of_ble_eq_true rfl) hc (x := x31 (LV CV) a0 ⟨[], m.next, m.next, 0⟩) (by kernel_rfl) h
/-- noonmark/noonmarkref05.two -/
def x32 (O : Orc) (a0 : Value) (m : Mem) : Option Out :=
(aBin .quo a0 (.int .i64 (10))).bind fun v0 =>
(aBin .add (.int .i64 (48)) v0).bind fun v1 =>
(aInt .u8 v1).bind fun v2 =>
(aBin .rem a0 (.int .i64 (10))).bind fun v3 =>
(aBin .add (.int .i64 (48)) v3).bind fun v4 =>
(aInt .u8 v4).bind fun v5 =>
(vLit 1 2 [(.int .u8 (0))] [(0, v2), (1, v5)] m).bind fun r6 =>
(vStr r6.1 r6.2).bind fun v7 =>
(aBin .add (S [58]) v7).bind fun v8 =>
some ⟨.ret, [v8], r6.2, []⟩
theorem R32 {a0 : Value} {m : Mem} {r : Out} (h : (x32 (LV CV) a0 ⟨[], m.next, m.next, 0⟩).bind (close m) = some r) (hc : [a0].all (clo FUEL) = true := by simp) : LV CV (.call 32) [a0] m [] = some r := R_callP (C := CV) (fn := ir32) rfl rfl rfl (Nat.le_of_ble_eq_true rfl) hc (x := x32 (LV CV) a0 ⟨[], m.next, m.next, 0⟩) (by kernel_rfl) h
/-- internal/stringslite.CutPrefix -/
def x33 (O : Orc) (a0 a1 : Value) (m : Mem) : Option Out :=
retK (O (.call 40) [a0, a1] m []) (fun v0 m1 =>
(aUn .not v0).bind fun v3 =>
br v3 (
some ⟨.ret, [.tuple [a0, (.bool false)].toArray], m1, []⟩) (
(aLenS a1).bind fun v4 =>
(aCutStr a0 (some v4) none).bind fun v5 =>
some ⟨.ret, [.tuple [v5, (.bool true)].toArray], m1, []⟩)) (fun p2 m6 => some ⟨.panic p2, [], m6, []⟩)
theorem R33 {a0 a1 : Value} {m : Mem} {r : Out} (h : (x33 (LV CV) a0 a1 ⟨[], m.next, m.next, 0⟩).bind (close m) = some r) (hc : [a0, a1].all (clo FUEL) = true := by simp) : LV CV (.call 33) [a0, a1] m [] = some r := R_callP (C := CV) (fn := ir33) rfl rfl rfl (Nat.le_of_ble_eq_true rfl) hc (x := x33 (LV CV) a0 a1 ⟨[], m.next, m.next, 0⟩) (by kernel_rfl) h
/-- (*noonmark/clock.reader).take -/
def x37 (O : Orc) (a0 : Value) (m : Mem) : Option Out :=
(vCheck a0).bind fun v0 =>
(vLd 1 false v0 m).bind fun v1 =>
retK (O (.call 42) [v1, (S [58])] m []) (fun v2 m3 =>
(aExtract 0 v2).bind fun v5 =>
(aExtract 1 v2).bind fun v6 =>
(aExtract 2 v2).bind fun v7 =>
(vCheck a0).bind fun v8 =>
(aSt 1 v8 v6 m3).bind fun m9 =>
some ⟨.ret, [v5], m9, []⟩) (fun p4 m10 => some ⟨.panic p4, [], m10, []⟩)
theorem R37 {a0 : Value} {m : Mem} {r : Out} (h : x37 (LV CV) a0 m = some r) : LV CV (.call 37) [a0] m [] = some r := R_callV (C := CV) (fn := ir37) rfl rfl rfl (Nat.le_of_ble_eq_true rfl) (x := x37 (LV CV) a0 m) (by kernel_rfl) h
/-- noonmark/noonmarkref02.digits -/
def x39 (O : Orc) (a0 : Value) (m : Mem) : Option Out :=
(aBin .rem a0 (.int .i64 (10))).bind fun v0 =>
(aBin .sub (.int .i64 (48)) v0).bind fun v1 =>
(aInt .u8 v1).bind fun v2 =>
(vLit 1 1 [(.int .u8 (0))] [(0, v2)] m).bind fun r3 =>
(vStr r3.1 r3.2).bind fun v4 =>
(aBin .gtr a0 (.int .i64 (-10))).bind fun v5 =>
br v5 (
some ⟨.ret, [v4], r3.2, []⟩) (
(aBin .quo a0 (.int .i64 (10))).bind fun v6 =>
retK (O (.call 39) [v6] r3.2 []) (fun v7 m8 =>
(aBin .add v7 v4).bind fun v10 =>
some ⟨.ret, [v10], m8, []⟩) (fun p9 m11 => some ⟨.panic p9, [], m11, []⟩))
theorem R39 {a0 : Value} {m : Mem} {r : Out} (h : (x39 (LV CV) a0 ⟨[], m.next, m.next, 0⟩).bind (close m) = some r) (hc : [a0].all (clo FUEL) = true := by simp) : LV CV (.call 39) [a0] m [] = some r := R_callP (C := CV) (fn := ir39) rfl rfl rfl (Nat.le_of_ble_eq_true rfl) hc (x := x39 (LV CV) a0 ⟨[], m.next, m.next, 0⟩) (by kernel_rfl) h
/-- internal/stringslite.HasPrefix -/
def x40 (O : Orc) (a0 a1 : Value) (m : Mem) : Option Out :=
(aLenS a0).bind fun v0 =>
(aLenS a1).bind fun v1 =>
(aBin .geq v0 v1).bind fun v2 =>
br v2 (
(aLenS a1).bind fun v3 =>
(aCutStr a0 none (some v3)).bind fun v4 =>
(aBin .eql v4 a1).bind fun v5 =>
some ⟨.ret, [v5], m, []⟩) (
some ⟨.ret, [(.bool false)], m, []⟩)
theorem R40 {a0 a1 : Value} {m : Mem} {r : Out} (h : (x40 (LV CV) a0 a1 ⟨[], m.next, m.next, 0⟩).bind (close m) = some r) (hc : [a0, a1].all (clo FUEL) = true := by simp) : LV CV (.call 40) [a0, a1] m [] = some r := R_callP (C := CV) (fn := ir40) rfl rfl rfl (Nat.le_of_ble_eq_true rfl) hc (x := x40 (LV CV) a0 a1 ⟨[], m.next, m.next, 0⟩) (by kernel_rfl) h
def y4100 (O : Orc) (b0 b1 b2 b3 b4 b5 b6 b7 b8 : Value) (m : Mem) : Option Out :=
(aBin .lss b6 b7).bind fun v0 =>
br v0 (
cutN (
(aByte b0 b6).bind fun v6 =>
(aBin .neq v6 b4).bind fun v7 =>
br v7 (
(aBin .add b6 (.int .i64 (1))).bind fun v8 =>
(aCutStr b0 (some v8) (some b7)).bind fun v9 =>
retK (O (.call 44) [v9, b4] m []) (fun v10 m11 =>
(aBin .lss v10 (.int .i64 (0))).bind fun v13 =>
br v13 (
some ⟨.ret, [b0, b1, (.int .i64 (-1)), b3, b4, b5, b6, b7, b8], m11, []⟩) (
(aBin .add v10 (.int .i64 (1))).bind fun v14 =>
(aBin .add b6 v14).bind fun v15 =>
some ⟨.normal, [b0, b1, b2, b3, b4, b5, v15, b7, b8], m11, []⟩)) (fun p12 m16 => some ⟨.panic p12, [b0, b1, b2, b3, b4, b5, b6, b7, b8], m16, []⟩)) (
some ⟨.normal, [b0, b1, b2, b3, b4, b5, b6, b7, b8], m, []⟩)) (fun w1 m2 =>
(aBin .add (w1.getD 6 undef) (.int .i64 (1))).bind fun v17 =>
(aByte (w1.getD 0 undef) v17).bind fun v18 =>
(aBin .eql v18 (w1.getD 5 undef)).bind fun v19 =>
br v19 (
(aBin .add (w1.getD 6 undef) (w1.getD 3 undef)).bind fun v20 =>
(aCutStr (w1.getD 0 undef) (some (w1.getD 6 undef)) (some v20)).bind fun v21 =>
(aBin .eql v21 (w1.getD 1 undef)).bind fun v22 =>
br v22 (
some ⟨.ret, [(w1.getD 0 undef), (w1.getD 1 undef), (w1.getD 6 undef), (w1.getD 3 undef), (w1.getD 4 undef), (w1.getD 5 undef), (w1.getD 6 undef), (w1.getD 7 undef), (w1.getD 8 undef)], m2, []⟩) (
(aBin .add (w1.getD 6 undef) (.int .i64 (1))).bind fun v23 =>
(aBin .add (w1.getD 8 undef) (.int .i64 (1))).bind fun v24 =>
(vLd 1 false undef m2).bind fun v25 =>
(aBin .leq (w1.getD 3 undef) v25).bind fun v26 =>
br v26 (
retK (O (.call 46) [v23] m2 []) (fun v27 m28 =>
(aBin .gtr v24 v27).bind fun v30 =>
br v30 (
(aCutStr (w1.getD 0 undef) (some v23) none).bind fun v31 =>
retK (O (.call 45) [v31, (w1.getD 1 undef)] m28 []) (fun v32 m33 =>
(aBin .geq v32 (.int .i64 (0))).bind fun v35 =>
br v35 (
(aBin .add v32 v23).bind fun v36 =>
some ⟨.ret, [(w1.getD 0 undef), (w1.getD 1 undef), v36, (w1.getD 3 undef), (w1.getD 4 undef), (w1.getD 5 undef), v23, (w1.getD 7 undef), v24], m33, []⟩) (
some ⟨.ret, [(w1.getD 0 undef), (w1.getD 1 undef), (.int .i64 (-1)), (w1.getD 3 undef), (w1.getD 4 undef), (w1.getD 5 undef), v23, (w1.getD 7 undef), v24], m33, []⟩)) (fun p34 m37 => some ⟨.panic p34, [(w1.getD 0 undef), (w1.getD 1 undef), (w1.getD 2 undef), (w1.getD 3 undef), (w1.getD 4 undef), (w1.getD 5 undef), v23, (w1.getD 7 undef), v24], m37, []⟩)) (
(vLd 1 false undef m28).bind fun v38 =>
(aBin .gtr (w1.getD 3 undef) v38).bind fun v39 =>
br v39 (
(aBin .shr v23 (.int .u64 (4))).bind fun v40 =>
(aBin .add (.int .i64 (4)) v40).bind fun v41 =>
(aBin .geq v24 v41).bind fun v42 =>
br v42 (
(aBin .lss v23 (w1.getD 7 undef)).bind fun v43 =>
br v43 (
(aCutStr (w1.getD 0 undef) (some v23) none).bind fun v44 =>
retK (O (.call 47) [v44, (w1.getD 1 undef)] m28 []) (fun v45 m46 =>
(aBin .lss v45 (.int .i64 (0))).bind fun v48 =>
br v48 (
some ⟨.ret, [(w1.getD 0 undef), (w1.getD 1 undef), (.int .i64 (-1)), (w1.getD 3 undef), (w1.getD 4 undef), (w1.getD 5 undef), v23, (w1.getD 7 undef), v24], m46, []⟩) (
(aBin .add v23 v45).bind fun v49 =>
some ⟨.ret, [(w1.getD 0 undef), (w1.getD 1 undef), v49, (w1.getD 3 undef), (w1.getD 4 undef), (w1.getD 5 undef), v23, (w1.getD 7 undef), v24], m46, []⟩)) (fun p47 m50 => some ⟨.panic p47, [(w1.getD 0 undef), (w1.getD 1 undef), (w1.getD 2 undef), (w1.getD 3 undef), (w1.getD 4 undef), (w1.getD 5 undef), v23, (w1.getD 7 undef), v24], m50, []⟩)) (
O (.loop 4100) [(w1.getD 0 undef), (w1.getD 1 undef), (w1.getD 2 undef), (w1.getD 3 undef), (w1.getD 4 undef), (w1.getD 5 undef), v23, (w1.getD 7 undef), v24] m28 [])) (
O (.loop 4100) [(w1.getD 0 undef), (w1.getD 1 undef), (w1.getD 2 undef), (w1.getD 3 undef), (w1.getD 4 undef), (w1.getD 5 undef), v23, (w1.getD 7 undef), v24] m28 [])) (
O (.loop 4100) [(w1.getD 0 undef), (w1.getD 1 undef), (w1.getD 2 undef), (w1.getD 3 undef), (w1.getD 4 undef), (w1.getD 5 undef), v23, (w1.getD 7 undef), v24] m28 []))) (fun p29 m51 => some ⟨.panic p29, [(w1.getD 0 undef), (w1.getD 1 undef), (w1.getD 2 undef), (w1.getD 3 undef), (w1.getD 4 undef), (w1.getD 5 undef), v23, (w1.getD 7 undef), v24], m51, []⟩)) (
(vLd 1 false undef m2).bind fun v52 =>
(aBin .gtr (w1.getD 3 undef) v52).bind fun v53 =>
br v53 (
(aBin .shr v23 (.int .u64 (4))).bind fun v54 =>
(aBin .add (.int .i64 (4)) v54).bind fun v55 =>
(aBin .geq v24 v55).bind fun v56 =>
br v56 (
(aBin .lss v23 (w1.getD 7 undef)).bind fun v57 =>
br v57 (
(aCutStr (w1.getD 0 undef) (some v23) none).bind fun v58 =>
retK (O (.call 47) [v58, (w1.getD 1 undef)] m2 []) (fun v59 m60 =>
(aBin .lss v59 (.int .i64 (0))).bind fun v62 =>
br v62 (
some ⟨.ret, [(w1.getD 0 undef), (w1.getD 1 undef), (.int .i64 (-1)), (w1.getD 3 undef), (w1.getD 4 undef), (w1.getD 5 undef), v23, (w1.getD 7 undef), v24], m60, []⟩) (
(aBin .add v23 v59).bind fun v63 =>
some ⟨.ret, [(w1.getD 0 undef), (w1.getD 1 undef), v63, (w1.getD 3 undef), (w1.getD 4 undef), (w1.getD 5 undef), v23, (w1.getD 7 undef), v24], m60, []⟩)) (fun p61 m64 => some ⟨.panic p61, [(w1.getD 0 undef), (w1.getD 1 undef), (w1.getD 2 undef), (w1.getD 3 undef), (w1.getD 4 undef), (w1.getD 5 undef), v23, (w1.getD 7 undef), v24], m64, []⟩)) (
O (.loop 4100) [(w1.getD 0 undef), (w1.getD 1 undef), (w1.getD 2 undef), (w1.getD 3 undef), (w1.getD 4 undef), (w1.getD 5 undef), v23, (w1.getD 7 undef), v24] m2 [])) (
O (.loop 4100) [(w1.getD 0 undef), (w1.getD 1 undef), (w1.getD 2 undef), (w1.getD 3 undef), (w1.getD 4 undef), (w1.getD 5 undef), v23, (w1.getD 7 undef), v24] m2 [])) (
O (.loop 4100) [(w1.getD 0 undef), (w1.getD 1 undef), (w1.getD 2 undef), (w1.getD 3 undef), (w1.getD 4 undef), (w1.getD 5 undef), v23, (w1.getD 7 undef), v24] m2 [])))) (
(aBin .add (w1.getD 6 undef) (.int .i64 (1))).bind fun v65 =>
(aBin .add (w1.getD 8 undef) (.int .i64 (1))).bind fun v66 =>
(vLd 1 false undef m2).bind fun v67 =>
(aBin .leq (w1.getD 3 undef) v67).bind fun v68 =>
br v68 (
retK (O (.call 46) [v65] m2 []) (fun v69 m70 =>
(aBin .gtr v66 v69).bind fun v72 =>
br v72 (
(aCutStr (w1.getD 0 undef) (some v65) none).bind fun v73 =>
retK (O (.call 45) [v73, (w1.getD 1 undef)] m70 []) (fun v74 m75 =>
(aBin .geq v74 (.int .i64 (0))).bind fun v77 =>
br v77 (
(aBin .add v74 v65).bind fun v78 =>
some ⟨.ret, [(w1.getD 0 undef), (w1.getD 1 undef), v78, (w1.getD 3 undef), (w1.getD 4 undef), (w1.getD 5 undef), v65, (w1.getD 7 undef), v66], m75, []⟩) (
some ⟨.ret, [(w1.getD 0 undef), (w1.getD 1 undef), (.int .i64 (-1)), (w1.getD 3 undef), (w1.getD 4 undef), (w1.getD 5 undef), v65, (w1.getD 7 undef), v66], m75, []⟩)) (fun p76 m79 => some ⟨.panic p76, [(w1.getD 0 undef), (w1.getD 1 undef), (w1.getD 2 undef), (w1.getD 3 undef), (w1.getD 4 undef), (w1.getD 5 undef), v65, (w1.getD 7 undef), v66], m79, []⟩)) (
(vLd 1 false undef m70).bind fun v80 =>
(aBin .gtr (w1.getD 3 undef) v80).bind fun v81 =>
br v81 (
(aBin .shr v65 (.int .u64 (4))).bind fun v82 =>
(aBin .add (.int .i64 (4)) v82).bind fun v83 =>
(aBin .geq v66 v83).bind fun v84 =>
br v84 (
(aBin .lss v65 (w1.getD 7 undef)).bind fun v85 =>
br v85 (
(aCutStr (w1.getD 0 undef) (some v65) none).bind fun v86 =>
retK (O (.call 47) [v86, (w1.getD 1 undef)] m70 []) (fun v87 m88 =>
(aBin .lss v87 (.int .i64 (0))).bind fun v90 =>
br v90 (
some ⟨.ret, [(w1.getD 0 undef), (w1.getD 1 undef), (.int .i64 (-1)), (w1.getD 3 undef), (w1.getD 4 undef), (w1.getD 5 undef), v65, (w1.getD 7 undef), v66], m88, []⟩) (
(aBin .add v65 v87).bind fun v91 =>
some ⟨.ret, [(w1.getD 0 undef), (w1.getD 1 undef), v91, (w1.getD 3 undef), (w1.getD 4 undef), (w1.getD 5 undef), v65, (w1.getD 7 undef), v66], m88, []⟩)) (fun p89 m92 => some ⟨.panic p89, [(w1.getD 0 undef), (w1.getD 1 undef), (w1.getD 2 undef), (w1.getD 3 undef), (w1.getD 4 undef), (w1.getD 5 undef), v65, (w1.getD 7 undef), v66], m92, []⟩)) (
O (.loop 4100) [(w1.getD 0 undef), (w1.getD 1 undef), (w1.getD 2 undef), (w1.getD 3 undef), (w1.getD 4 undef), (w1.getD 5 undef), v65, (w1.getD 7 undef), v66] m70 [])) (
O (.loop 4100) [(w1.getD 0 undef), (w1.getD 1 undef), (w1.getD 2 undef), (w1.getD 3 undef), (w1.getD 4 undef), (w1.getD 5 undef), v65, (w1.getD 7 undef), v66] m70 [])) (
O (.loop 4100) [(w1.getD 0 undef), (w1.getD 1 undef), (w1.getD 2 undef), (w1.getD 3 undef), (w1.getD 4 undef), (w1.getD 5 undef), v65, (w1.getD 7 undef), v66] m70 []))) (fun p71 m93 => some ⟨.panic p71, [(w1.getD 0 undef), (w1.getD 1 undef), (w1.getD 2 undef), (w1.getD 3 undef), (w1.getD 4 undef), (w1.getD 5 undef), v65, (w1.getD 7 undef), v66], m93, []⟩)) (
(vLd 1 false undef m2).bind fun v94 =>
(aBin .gtr (w1.getD 3 undef) v94).bind fun v95 =>
br v95 (
(aBin .shr v65 (.int .u64 (4))).bind fun v96 =>
(aBin .add (.int .i64 (4)) v96).bind fun v97 =>
(aBin .geq v66 v97).bind fun v98 =>
br v98 (
(aBin .lss v65 (w1.getD 7 undef)).bind fun v99 =>
br v99 (
(aCutStr (w1.getD 0 undef) (some v65) none).bind fun v100 =>
retK (O (.call 47) [v100, (w1.getD 1 undef)] m2 []) (fun v101 m102 =>
(aBin .lss v101 (.int .i64 (0))).bind fun v104 =>
br v104 (
some ⟨.ret, [(w1.getD 0 undef), (w1.getD 1 undef), (.int .i64 (-1)), (w1.getD 3 undef), (w1.getD 4 undef), (w1.getD 5 undef), v65, (w1.getD 7 undef), v66], m102, []⟩) (
(aBin .add v65 v101).bind fun v105 =>
some ⟨.ret, [(w1.getD 0 undef), (w1.getD 1 undef), v105, (w1.getD 3 undef), (w1.getD 4 undef), (w1.getD 5 undef), v65, (w1.getD 7 undef), v66], m102, []⟩)) (fun p103 m106 => some ⟨.panic p103, [(w1.getD 0 undef), (w1.getD 1 undef), (w1.getD 2 undef), (w1.getD 3 undef), (w1.getD 4 undef), (w1.getD 5 undef), v65, (w1.getD 7 undef), v66], m106, []⟩)) (
O (.loop 4100) [(w1.getD 0 undef), (w1.getD 1 undef), (w1.getD 2 undef), (w1.getD 3 undef), (w1.getD 4 undef), (w1.getD 5 undef), v65, (w1.getD 7 undef), v66] m2 [])) (
O (.loop 4100) [(w1.getD 0 undef), (w1.getD 1 undef), (w1.getD 2 undef), (w1.getD 3 undef), (w1.getD 4 undef), (w1.getD 5 undef), v65, (w1.getD 7 undef), v66] m2 [])) (
O (.loop 4100) [(w1.getD 0 undef), (w1.getD 1 undef), (w1.getD 2 undef), (w1.getD 3 undef), (w1.getD 4 undef), (w1.getD 5 undef), v65, (w1.getD 7 undef), v66] m2 [])))) (fun id4 w1 m2 =>
if id4 = 2 then
O (.loop 4100) [(w1.getD 0 undef), (w1.getD 1 undef), (w1.getD 2 undef), (w1.getD 3 undef), (w1.getD 4 undef), (w1.getD 5 undef), (w1.getD 6 undef), (w1.getD 7 undef), (w1.getD 8 undef)] m2 [] else
some ⟨.exit id4, [(w1.getD 0 undef), (w1.getD 1 undef), (w1.getD 2 undef), (w1.getD 3 undef), (w1.getD 4 undef), (w1.getD 5 undef), (w1.getD 6 undef), (w1.getD 7 undef), (w1.getD 8 undef)], m2, []⟩) (fun w1 m2 =>
some ⟨.ret, [(w1.getD 0 undef), (w1.getD 1 undef), (w1.getD 2 undef), (w1.getD 3 undef), (w1.getD 4 undef), (w1.getD 5 undef), (w1.getD 6 undef), (w1.getD 7 undef), (w1.getD 8 undef)], m2, []⟩) (fun p5 w1 m2 =>
some ⟨.panic p5, [(w1.getD 0 undef), (w1.getD 1 undef), (w1.getD 2 undef), (w1.getD 3 undef), (w1.getD 4 undef), (w1.getD 5 undef), (w1.getD 6 undef), (w1.getD 7 undef), (w1.getD 8 undef)], m2, []⟩)) (
some ⟨.exit 1, [b0, b1, b2, b3, b4, b5, b6, b7, b8], m, []⟩)
theorem Q4100 {b0 b1 b2 b3 b4 b5 b6 b7 b8 : Value} {m : Mem} {r : Out} (h : y4100 (LV CV) b0 b1 b2 b3 b4 b5 b6 b7 b8 m = some r) : LV CV (.loop 4100) [b0, b1, b2, b3, b4, b5, b6, b7, b8] m [] = some r := R_loopV (C := CV) (keep := [0, 1, 4, 5, 6, 7, 8, 9, 10]) (b := lb4100) rfl (x := y4100 (LV CV) b0 b1 b2 b3 b4 b5 b6 b7 b8 m) (by kernel_rfl) h
/-- internal/stringslite.Index -/
def x41 (O : Orc) (a0 a1 : Value) (m : Mem) : Option Out :=
(aLenS a1).bind fun v0 =>
(aBin .eql v0 (.int .i64 (0))).bind fun v1 =>
br v1 (
some ⟨.ret, [(.int .i64 (0))], m, []⟩) (
(aBin .eql a1 a0).bind fun v2 =>
br v2 (
some ⟨.ret, [(.int .i64 (0))], m, []⟩) (
(aBin .eql v0 (.int .i64 (1))).bind fun v3 =>
br v3 (
(aByte a1 (.int .i64 (0))).bind fun v4 =>
retK (O (.call 44) [a0, v4] m []) (fun v5 m6 =>
some ⟨.ret, [v5], m6, []⟩) (fun p7 m8 => some ⟨.panic p7, [], m8, []⟩)) (
(aLenS a0).bind fun v9 =>
(aBin .geq v0 v9).bind fun v10 =>
br v10 (
some ⟨.ret, [(.int .i64 (-1))], m, []⟩) (
(vLd 1 false undef m).bind fun v11 =>
(aBin .leq v0 v11).bind fun v12 =>
br v12 (
(aLenS a0).bind fun v13 =>
(aBin .leq v13 (.int .i64 (64))).bind fun v14 =>
br v14 (
retK (O (.call 45) [a0, a1] m []) (fun v15 m16 =>
some ⟨.ret, [v15], m16, []⟩) (fun p17 m18 => some ⟨.panic p17, [], m18, []⟩)) (
(aByte a1 (.int .i64 (0))).bind fun v19 =>
(aByte a1 (.int .i64 (1))).bind fun v20 =>
(aLenS a0).bind fun v21 =>
(aBin .sub v21 v0).bind fun v22 =>
(aBin .add v22 (.int .i64 (1))).bind fun v23 =>
lpN (O (.loop 4100) [a0, a1, (.int .i64 (0)), v0, v19, v20, (.int .i64 (0)), v23, (.int .i64 (0))] m []) (fun id27 w24 m25 =>
if id27 = 1 then
some ⟨.ret, [(.int .i64 (-1))], m25, []⟩ else
none) (fun w24 m25 =>
some ⟨.ret, [(w24.getD 2 undef)], m25, []⟩) (fun p28 w24 m25 =>
some ⟨.panic p28, [], m25, []⟩))) (
(aByte a1 (.int .i64 (0))).bind fun v29 =>
(aByte a1 (.int .i64 (1))).bind fun v30 =>
(aLenS a0).bind fun v31 =>
(aBin .sub v31 v0).bind fun v32 =>
(aBin .add v32 (.int .i64 (1))).bind fun v33 =>
lpN (O (.loop 4100) [a0, a1, (.int .i64 (0)), v0, v29, v30, (.int .i64 (0)), v33, (.int .i64 (0))] m []) (fun id37 w34 m35 =>
if id37 = 1 then
some ⟨.ret, [(.int .i64 (-1))], m35, []⟩ else
none) (fun w34 m35 =>
some ⟨.ret, [(w34.getD 2 undef)], m35, []⟩) (fun p38 w34 m35 =>
some ⟨.panic p38, [], m35, []⟩))))))
theorem R41 {a0 a1 : Value} {m : Mem} {r : Out} (h : (x41 (LV CV) a0 a1 ⟨[], m.next, m.next, 0⟩).bind (close m) = some r) (hc : [a0, a1].all (clo FUEL) = true := by simp) : LV CV (.call 41) [a0, a1] m [] = some r := R_callP (C := CV) (fn := ir41) rfl rfl rfl (Nat.le_of_ble_eq_true rfl) hc (x := x41 (LV CV) a0 a1 ⟨[], m.next, m.next, 0⟩) (by kernel_rfl) h
/-- strings.Cut -/
def x42 (O : Orc) (a0 a1 : Value) (m : Mem) : Option Out :=
retK (O (.call 48) [a0, a1] m []) (fun v0 m1 =>
(aExtract 0 v0).bind fun v3 =>
(aExtract 1 v0).bind fun v4 =>
(aExtract 2 v0).bind fun v5 =>
some ⟨.ret, [.tuple [v3, v4, v5].toArray], m1, []⟩) (fun p2 m6 => some ⟨.panic p2, [], m6, []⟩)
theorem R42 {a0 a1 : Value} {m : Mem} {r : Out} (h : (x42 (LV CV) a0 a1 ⟨[], m.next, m.next, 0⟩).bind (close m) = some r) (hc : [a0, a1].all (clo FUEL) = true := by simp) : LV CV (.call 42) [a0, a1] m [] = some r := R_callP (C := CV) (fn := ir42) rfl rfl rfl (Nat.le_of_ble_eq_true rfl) hc (x := x42 (LV CV) a0 a1 ⟨[], m.next, m.next, 0⟩) (by kernel_rfl) h
/-- internal/bytealg.Cutover -/
def x46 (O : Orc) (a0 : Value) (m : Mem) : Option Out :=
(aBin .add a0 (.int .i64 (16))).bind fun v0 =>
(aBin .quo v0 (.int .i64 (8))).bind fun v1 =>
some ⟨.ret, [v1], m, []⟩
theorem R46 {a0 : Value} {m : Mem} {r : Out} (h : (x46 (LV CV) a0 ⟨[], m.next, m.next, 0⟩).bind (close m) = some r) (hc : [a0].all (clo FUEL) = true := by simp) : LV CV (.call 46) [a0] m [] = some r := R_callP (C := CV) (fn := ir46) rfl rfl rfl (Nat.le_of_ble_eq_true rfl) hc (x := x46 (LV CV) a0 ⟨[], m.next, m.next, 0⟩) (by kernel_rfl) h
def y4700 (O : Orc) (b0 b1 b2 b3 b4 b5 b6 : Value) (m : Mem) : Option Out :=
(aBin .lss b6 b4).bind fun v0 =>
br v0 (
(aBin .mul b5 (.int .u32 (16777619))).bind fun v1 =>
(aByte b0 b6).bind fun v2 =>
(aInt .u32 v2).bind fun v3 =>
(aBin .add v1 v3).bind fun v4 =>
(aBin .add b6 (.int .i64 (1))).bind fun v5 =>
O (.loop 4700) [b0, b1, b2, b3, b4, v4, v5] m []) (
some ⟨.exit 0, [b0, b1, b2, b3, b4, b5, b6], m, []⟩)
theorem Q4700 {b0 b1 b2 b3 b4 b5 b6 : Value} {m : Mem} {r : Out} (h : y4700 (LV CV) b0 b1 b2 b3 b4 b5 b6 m = some r) : LV CV (.loop 4700) [b0, b1, b2, b3, b4, b5, b6] m [] = some r := R_loopV (C := CV) (keep := [0, 1, 5, 6, 7, 8, 9]) (b := lb4700) rfl (x := y4700 (LV CV) b0 b1 b2 b3 b4 b5 b6 m) (by kernel_rfl) h
def y4701 (O : Orc) (b0 b1 b2 b3 b4 b5 b6 b7 : Value) (m : Mem) : Option Out :=
(aLenS b0).bind fun v0 =>
(aBin .lss b7 v0).bind fun v1 =>
br v1 (
(aBin .mul b6 (.int .u32 (16777619))).bind fun v2 =>
(aByte b0 b7).bind fun v3 =>
(aInt .u32 v3).bind fun v4 =>
(aBin .add v2 v4).bind fun v5 =>
(aBin .sub b7 b5).bind fun v6 =>
(aByte b0 v6).bind fun v7 =>
(aInt .u32 v7).bind fun v8 =>
(aBin .mul b4 v8).bind fun v9 =>
(aBin .sub v5 v9).bind fun v10 =>
(aBin .add b7 (.int .i64 (1))).bind fun v11 =>
(aBin .eql v10 b3).bind fun v12 =>
br v12 (
(aBin .sub v11 b5).bind fun v13 =>
(aCutStr b0 (some v13) (some v11)).bind fun v14 =>
(aBin .eql v14 b1).bind fun v15 =>
br v15 (
(aBin .sub v11 b5).bind fun v16 =>
some ⟨.ret, [b0, b1, v16, b3, b4, b5, v10, v11], m, []⟩) (
O (.loop 4701) [b0, b1, b2, b3, b4, b5, v10, v11] m [])) (
O (.loop 4701) [b0, b1, b2, b3, b4, b5, v10, v11] m [])) (
some ⟨.exit 2, [b0, b1, b2, b3, b4, b5, b6, b7], m, []⟩)
theorem Q4701 {b0 b1 b2 b3 b4 b5 b6 b7 : Value} {m : Mem} {r : Out} (h : y4701 (LV CV) b0 b1 b2 b3 b4 b5 b6 b7 m = some r) : LV CV (.loop 4701) [b0, b1, b2, b3, b4, b5, b6, b7] m [] = some r := R_loopV (C := CV) (keep := [0, 1, 4, 5, 6, 7, 8, 10]) (b := lb4701) rfl (x := y4701 (LV CV) b0 b1 b2 b3 b4 b5 b6 b7 m) (by kernel_rfl) h
/-- internal/bytealg.IndexRabinKarp[string] -/
def x47 (O : Orc) (a0 a1 : Value) (m : Mem) : Option Out :=
retK (O (.call 54) [a1] m []) (fun v0 m1 =>
(aExtract 0 v0).bind fun v3 =>
(aExtract 1 v0).bind fun v4 =>
(aLenS a1).bind fun v5 =>
lpN (O (.loop 4700) [a0, a1, v3, v4, v5, (.int .u32 (0)), (.int .i64 (0))] m1 []) (fun id9 w6 m7 =>
if id9 = 0 then
(aBin .eql (w6.getD 5 undef) (w6.getD 2 undef)).bind fun v11 =>
br v11 (
(aCutStr (w6.getD 0 undef) none (some (w6.getD 4 undef))).bind fun v12 =>
(aBin .eql v12 (w6.getD 1 undef)).bind fun v13 =>
br v13 (
some ⟨.ret, [(.int .i64 (0))], m7, []⟩) (
lpN (O (.loop 4701) [(w6.getD 0 undef), (w6.getD 1 undef), undef, (w6.getD 2 undef), (w6.getD 3 undef), (w6.getD 4 undef), (w6.getD 5 undef), (w6.getD 4 undef)] m7 []) (fun id17 w14 m15 =>
if id17 = 2 then
some ⟨.ret, [(.int .i64 (-1))], m15, []⟩ else
none) (fun w14 m15 =>
some ⟨.ret, [(w14.getD 2 undef)], m15, []⟩) (fun p18 w14 m15 =>
some ⟨.panic p18, [], m15, []⟩))) (
lpN (O (.loop 4701) [(w6.getD 0 undef), (w6.getD 1 undef), undef, (w6.getD 2 undef), (w6.getD 3 undef), (w6.getD 4 undef), (w6.getD 5 undef), (w6.getD 4 undef)] m7 []) (fun id22 w19 m20 =>
if id22 = 2 then
some ⟨.ret, [(.int .i64 (-1))], m20, []⟩ else
none) (fun w19 m20 =>
some ⟨.ret, [(w19.getD 2 undef)], m20, []⟩) (fun p23 w19 m20 =>
some ⟨.panic p23, [], m20, []⟩)) else
none) (fun w6 m7 =>
some ⟨.ret, [undef], m7, []⟩) (fun p10 w6 m7 =>
some ⟨.panic p10, [], m7, []⟩)) (fun p2 m24 => some ⟨.panic p2, [], m24, []⟩)
theorem R47 {a0 a1 : Value} {m : Mem} {r : Out} (h : (x47 (LV CV) a0 a1 ⟨[], m.next, m.next, 0⟩).bind (close m) = some r) (hc : [a0, a1].all (clo FUEL) = true := by simp) : LV CV (.call 47) [a0, a1] m [] = some r := R_callP (C := CV) (fn := ir47) rfl rfl rfl (Nat.le_of_ble_eq_true rfl) hc (x := x47 (LV CV) a0 a1 ⟨[], m.next, m.next, 0⟩) (by kernel_rfl) h
/-- internal/stringslite.Cut -/
def x48 (O : Orc) (a0 a1 : Value) (m : Mem) : Option Out :=
retK (O (.call 41) [a0, a1] m []) (fun v0 m1 =>
(aBin .geq v0 (.int .i64 (0))).bind fun v3 =>
br v3 (
(aCutStr a0 none (some v0)).bind fun v4 =>
(aLenS a1).bind fun v5 =>
(aBin .add v0 v5).bind fun v6 =>
(aCutStr a0 (some v6) none).bind fun v7 =>
some ⟨.ret, [.tuple [v4, v7, (.bool true)].toArray], m1, []⟩) (
some ⟨.ret, [.tuple [a0, (S []), (.bool false)].toArray], m1, []⟩)) (fun p2 m8 => some ⟨.panic p2, [], m8, []⟩)
theorem R48 {a0 a1 : Value} {m : Mem} {r : Out} (h : (x48 (LV CV) a0 a1 ⟨[], m.next, m.next, 0⟩).bind (close m) = some r) (hc : [a0, a1].all (clo FUEL) = true := by simp) : LV CV (.call 48) [a0, a1] m [] = some r := R_callP (C := CV) (fn := ir48) rfl rfl rfl (Nat.le_of_ble_eq_true rfl) hc (x := x48 (LV CV) a0 a1 ⟨[], m.next, m.next, 0⟩) (by kernel_rfl) h
def y5400 (O : Orc) (b0 b1 b2 : Value) (m : Mem) : Option Out :=
(aLenS b0).bind fun v0 =>
(aBin .lss b2 v0).bind fun v1 =>
br v1 (
(aBin .mul b1 (.int .u32 (16777619))).bind fun v2 =>
(aByte b0 b2).bind fun v3 =>
(aInt .u32 v3).bind fun v4 =>
(aBin .add v2 v4).bind fun v5 =>
(aBin .add b2 (.int .i64 (1))).bind fun v6 =>
O (.loop 5400) [b0, v5, v6] m []) (
some ⟨.exit 0, [b0, b1, b2], m, []⟩)
theorem Q5400 {b0 b1 b2 : Value} {m : Mem} {r : Out} (h : y5400 (LV CV) b0 b1 b2 m = some r) : LV CV (.loop 5400) [b0, b1, b2] m [] = some r := R_loopV (C := CV) (keep := [0, 4, 5]) (b := lb5400) rfl (x := y5400 (LV CV) b0 b1 b2 m) (by kernel_rfl) h
def y5401 (O : Orc) (b0 b1 b2 b3 : Value) (m : Mem) : Option Out :=
(aBin .gtr b3 (.int .i64 (0))).bind fun v0 =>
br v0 (
(aBin .and b3 (.int .i64 (1))).bind fun v1 =>
(aBin .neq v1 (.int .i64 (0))).bind fun v2 =>
br v2 (
(aBin .mul b1 b2).bind fun v3 =>
(aBin .mul b2 b2).bind fun v4 =>
(aBin .shr b3 (.int .u64 (1))).bind fun v5 =>
O (.loop 5401) [b0, v3, v4, v5] m []) (
(aBin .mul b2 b2).bind fun v6 =>
(aBin .shr b3 (.int .u64 (1))).bind fun v7 =>
O (.loop 5401) [b0, b1, v6, v7] m [])) (
some ⟨.exit 2, [b0, b1, b2, b3], m, []⟩)
theorem Q5401 {b0 b1 b2 b3 : Value} {m : Mem} {r : Out} (h : y5401 (LV CV) b0 b1 b2 b3 m = some r) : LV CV (.loop 5401) [b0, b1, b2, b3] m [] = some r := R_loopV (C := CV) (keep := [4, 6, 7, 8]) (b := lb5401) rfl (x := y5401 (LV CV) b0 b1 b2 b3 m) (by kernel_rfl) h
/-- internal/bytealg.hashStr[string] -/
def x54 (O : Orc) (a0 : Value) (m : Mem) : Option Out :=
lpN (O (.loop 5400) [a0, (.int .u32 (0)), (.int .i64 (0))] m []) (fun id3 w0 m1 =>
if id3 = 0 then
(aLenS (w0.getD 0 undef)).bind fun v5 =>
lpN (O (.loop 5401) [(w0.getD 1 undef), (.int .u32 (1)), (.int .u32 (16777619)), v5] m1 []) (fun id9 w6 m7 =>
if id9 = 2 then
some ⟨.ret, [.tuple [(w6.getD 0 undef), (w6.getD 1 undef)].toArray], m7, []⟩ else
none) (fun w6 m7 =>
some ⟨.ret, [.tuple [undef, undef].toArray], m7, []⟩) (fun p10 w6 m7 =>
some ⟨.panic p10, [], m7, []⟩) else
none) (fun w0 m1 =>
some ⟨.ret, [.tuple [undef, undef].toArray], m1, []⟩) (fun p4 w0 m1 =>
some ⟨.panic p4, [], m1, []⟩)
theorem R54 {a0 : Value} {m : Mem} {r : Out} (h : (x54 (LV CV) a0 ⟨[], m.next, m.next, 0⟩).bind (close m) = some r) (hc : [a0].all (clo FUEL) = true := by simp) : LV CV (.call 54) [a0] m [] = some r := R_callP (C := CV) (fn := ir54) rfl rfl rfl (Nat.le_of_ble_eq_true rfl) hc (x := x54 (LV CV) a0 ⟨[], m.next, m.next, 0⟩) (by kernel_rfl) h
end Go.Proofs.YtbccdlbibcbcfaaDoor.D
