/-
  What each function does: printed by Vtool, checked by the kernel.
-/
import Derived.Test.YtibklmjoepckdaaDoorIR
import Derived.Test.YtibklmjoepckdaaDoorVG
namespace Go.Proofs.YtibklmjoepckdaaDoor.D
open Go.RowKit
set_option maxRecDepth 100000
set_option linter.unusedVariables false
def puT : List Nat := [3, 4, 5, 6, 7, 8, 9, 10, 11, 12, 13, 14, 15, 16, 17, 18, 19, 20, 21, 22, 23, 24, 25, 27, 28, 29, 30, 31, 32, 33, 34, 35, 36, 37, 38, 40, 41, 42, 43, 45, 46, 50, 51, 54]
def CV : CodeV := ⟨look irsT, look lpsT, gvT, fun f => puT.contains f⟩
/-- noonmark/noonmarklaw08.KeywordNames -/
def x3 (O : Orc) (a0 : Value) (m : Mem) : Option Out :=
(aLenS a0).bind fun v0 =>
(aBin .gtr v0 (.int .i64 (200))).bind fun v1 =>
br v1 (
retK (O (.call 9) [] m []) (fun v2 m3 =>
some ⟨.ret, [v2], m3, []⟩) (fun p4 m5 => some ⟨.panic p4, [], m5, []⟩)) (
retK (O (.call 10) [a0] m []) (fun v6 m7 =>
retK (O (.call 11) [a0] m7 []) (fun v9 m10 =>
(aEqB false v6 v9).bind fun v12 =>
br v12 (
retK (O (.call 12) [a0] m10 []) (fun v13 m14 =>
retK (O (.call 13) [a0] m14 []) (fun v16 m17 =>
(aEqB false v13 v16).bind fun v19 =>
br v19 (
retK (O (.call 9) [] m17 []) (fun v20 m21 =>
some ⟨.ret, [v20], m21, []⟩) (fun p22 m23 => some ⟨.panic p22, [], m23, []⟩)) (
some ⟨.ret, [(.bool false)], m17, []⟩)) (fun p18 m24 => some ⟨.panic p18, [], m24, []⟩)) (fun p15 m25 => some ⟨.panic p15, [], m25, []⟩)) (
some ⟨.ret, [(.bool false)], m10, []⟩)) (fun p11 m26 => some ⟨.panic p11, [], m26, []⟩)) (fun p8 m27 => some ⟨.panic p8, [], m27, []⟩))
theorem R3 {a0 : Value} {m : Mem} {r : Out} (h : (x3 (LV CV) a0 ⟨[], m.next, m.next, 0⟩).bind (close m) = some r) (hc : [a0].all (clo FUEL) = true := by simp) : LV CV (.call 3) [a0] m [] = some r := R_callP (C := CV) (fn := ir3) rfl rfl rfl (Nat.le_of_ble_eq_true rfl) hc (x := x3 (LV CV) a0 ⟨[], m.next, m.next, 0⟩) (by kernel_rfl) h
/-- noonmark/noonmarklaw08.KeywordParts -/
def x4 (O : Orc) (a0 a1 : Value) (m : Mem) : Option Out :=
(aLenS a0).bind fun v0 =>
(aBin .gtr v0 (.int .i64 (100))).bind fun v1 =>
br v1 (
retK (O (.call 9) [] m []) (fun v2 m3 =>
some ⟨.ret, [v2], m3, []⟩) (fun p4 m5 => some ⟨.panic p4, [], m5, []⟩)) (
(aLenS a1).bind fun v6 =>
(aBin .gtr v6 (.int .i64 (100))).bind fun v7 =>
br v7 (
retK (O (.call 9) [] m []) (fun v8 m9 =>
some ⟨.ret, [v8], m9, []⟩) (fun p10 m11 => some ⟨.panic p10, [], m11, []⟩)) (
retK (O (.call 10) [a0] m []) (fun v12 m13 =>
br v12 (
retK (O (.call 10) [a1] m13 []) (fun v15 m16 =>
br v15 (
(aBin .add a0 (S [47])).bind fun v18 =>
(aBin .add v18 a1).bind fun v19 =>
retK (O (.call 10) [v19] m16 []) (fun v20 m21 =>
(aLenS a0).bind fun v23 =>
(aBin .add v23 (.int .i64 (1))).bind fun v24 =>
(aLenS a1).bind fun v25 =>
(aBin .add v24 v25).bind fun v26 =>
(aBin .leq v26 (.int .i64 (30))).bind fun v27 =>
(aEqB true v20 v27).bind fun v28 =>
br v28 (
some ⟨.ret, [(.bool false)], m21, []⟩) (
retK (O (.call 12) [a0] m21 []) (fun v29 m30 =>
br v29 (
retK (O (.call 10) [a0] m30 []) (fun v32 m33 =>
(aUn .not v32).bind fun v35 =>
br v35 (
some ⟨.ret, [(.bool false)], m33, []⟩) (
(aBin .add a0 (S [47])).bind fun v36 =>
retK (O (.call 10) [v36] m33 []) (fun v37 m38 =>
(aUn .not v37).bind fun v40 =>
br v40 (
(aBin .add (S [47]) a0).bind fun v41 =>
retK (O (.call 10) [v41] m38 []) (fun v42 m43 =>
(aUn .not v42).bind fun v45 =>
br v45 (
(aBin .add a0 (S [47, 98])).bind fun v46 =>
retK (O (.call 12) [v46] m43 []) (fun v47 m48 =>
(aUn .not v47).bind fun v50 =>
br v50 (
retK (O (.call 9) [] m48 []) (fun v51 m52 =>
some ⟨.ret, [v51], m52, []⟩) (fun p53 m54 => some ⟨.panic p53, [], m54, []⟩)) (
some ⟨.ret, [(.bool false)], m48, []⟩)) (fun p49 m55 => some ⟨.panic p49, [], m55, []⟩)) (
some ⟨.ret, [(.bool false)], m43, []⟩)) (fun p44 m56 => some ⟨.panic p44, [], m56, []⟩)) (
some ⟨.ret, [(.bool false)], m38, []⟩)) (fun p39 m57 => some ⟨.panic p39, [], m57, []⟩))) (fun p34 m58 => some ⟨.panic p34, [], m58, []⟩)) (
(aBin .add a0 (S [47])).bind fun v59 =>
retK (O (.call 10) [v59] m30 []) (fun v60 m61 =>
(aUn .not v60).bind fun v63 =>
br v63 (
(aBin .add (S [47]) a0).bind fun v64 =>
retK (O (.call 10) [v64] m61 []) (fun v65 m66 =>
(aUn .not v65).bind fun v68 =>
br v68 (
(aBin .add a0 (S [47, 98])).bind fun v69 =>
retK (O (.call 12) [v69] m66 []) (fun v70 m71 =>
(aUn .not v70).bind fun v73 =>
br v73 (
retK (O (.call 9) [] m71 []) (fun v74 m75 =>
some ⟨.ret, [v74], m75, []⟩) (fun p76 m77 => some ⟨.panic p76, [], m77, []⟩)) (
some ⟨.ret, [(.bool false)], m71, []⟩)) (fun p72 m78 => some ⟨.panic p72, [], m78, []⟩)) (
some ⟨.ret, [(.bool false)], m66, []⟩)) (fun p67 m79 => some ⟨.panic p67, [], m79, []⟩)) (
some ⟨.ret, [(.bool false)], m61, []⟩)) (fun p62 m80 => some ⟨.panic p62, [], m80, []⟩))) (fun p31 m81 => some ⟨.panic p31, [], m81, []⟩))) (fun p22 m82 => some ⟨.panic p22, [], m82, []⟩)) (
retK (O (.call 12) [a0] m16 []) (fun v83 m84 =>
br v83 (
retK (O (.call 10) [a0] m84 []) (fun v86 m87 =>
(aUn .not v86).bind fun v89 =>
br v89 (
some ⟨.ret, [(.bool false)], m87, []⟩) (
(aBin .add a0 (S [47])).bind fun v90 =>
retK (O (.call 10) [v90] m87 []) (fun v91 m92 =>
(aUn .not v91).bind fun v94 =>
br v94 (
(aBin .add (S [47]) a0).bind fun v95 =>
retK (O (.call 10) [v95] m92 []) (fun v96 m97 =>
(aUn .not v96).bind fun v99 =>
br v99 (
(aBin .add a0 (S [47, 98])).bind fun v100 =>
retK (O (.call 12) [v100] m97 []) (fun v101 m102 =>
(aUn .not v101).bind fun v104 =>
br v104 (
retK (O (.call 9) [] m102 []) (fun v105 m106 =>
some ⟨.ret, [v105], m106, []⟩) (fun p107 m108 => some ⟨.panic p107, [], m108, []⟩)) (
some ⟨.ret, [(.bool false)], m102, []⟩)) (fun p103 m109 => some ⟨.panic p103, [], m109, []⟩)) (
some ⟨.ret, [(.bool false)], m97, []⟩)) (fun p98 m110 => some ⟨.panic p98, [], m110, []⟩)) (
some ⟨.ret, [(.bool false)], m92, []⟩)) (fun p93 m111 => some ⟨.panic p93, [], m111, []⟩))) (fun p88 m112 => some ⟨.panic p88, [], m112, []⟩)) (
(aBin .add a0 (S [47])).bind fun v113 =>
retK (O (.call 10) [v113] m84 []) (fun v114 m115 =>
(aUn .not v114).bind fun v117 =>
br v117 (
(aBin .add (S [47]) a0).bind fun v118 =>
retK (O (.call 10) [v118] m115 []) (fun v119 m120 =>
(aUn .not v119).bind fun v122 =>
br v122 (
(aBin .add a0 (S [47, 98])).bind fun v123 =>
retK (O (.call 12) [v123] m120 []) (fun v124 m125 =>
(aUn .not v124).bind fun v127 =>
br v127 (
retK (O (.call 9) [] m125 []) (fun v128 m129 =>
some ⟨.ret, [v128], m129, []⟩) (fun p130 m131 => some ⟨.panic p130, [], m131, []⟩)) (
some ⟨.ret, [(.bool false)], m125, []⟩)) (fun p126 m132 => some ⟨.panic p126, [], m132, []⟩)) (
some ⟨.ret, [(.bool false)], m120, []⟩)) (fun p121 m133 => some ⟨.panic p121, [], m133, []⟩)) (
some ⟨.ret, [(.bool false)], m115, []⟩)) (fun p116 m134 => some ⟨.panic p116, [], m134, []⟩))) (fun p85 m135 => some ⟨.panic p85, [], m135, []⟩))) (fun p17 m136 => some ⟨.panic p17, [], m136, []⟩)) (
retK (O (.call 12) [a0] m13 []) (fun v137 m138 =>
br v137 (
retK (O (.call 10) [a0] m138 []) (fun v140 m141 =>
(aUn .not v140).bind fun v143 =>
br v143 (
some ⟨.ret, [(.bool false)], m141, []⟩) (
(aBin .add a0 (S [47])).bind fun v144 =>
retK (O (.call 10) [v144] m141 []) (fun v145 m146 =>
(aUn .not v145).bind fun v148 =>
br v148 (
(aBin .add (S [47]) a0).bind fun v149 =>
retK (O (.call 10) [v149] m146 []) (fun v150 m151 =>
(aUn .not v150).bind fun v153 =>
br v153 (
(aBin .add a0 (S [47, 98])).bind fun v154 =>
retK (O (.call 12) [v154] m151 []) (fun v155 m156 =>
(aUn .not v155).bind fun v158 =>
br v158 (
retK (O (.call 9) [] m156 []) (fun v159 m160 =>
some ⟨.ret, [v159], m160, []⟩) (fun p161 m162 => some ⟨.panic p161, [], m162, []⟩)) (
some ⟨.ret, [(.bool false)], m156, []⟩)) (fun p157 m163 => some ⟨.panic p157, [], m163, []⟩)) (
some ⟨.ret, [(.bool false)], m151, []⟩)) (fun p152 m164 => some ⟨.panic p152, [], m164, []⟩)) (
some ⟨.ret, [(.bool false)], m146, []⟩)) (fun p147 m165 => some ⟨.panic p147, [], m165, []⟩))) (fun p142 m166 => some ⟨.panic p142, [], m166, []⟩)) (
(aBin .add a0 (S [47])).bind fun v167 =>
retK (O (.call 10) [v167] m138 []) (fun v168 m169 =>
(aUn .not v168).bind fun v171 =>
br v171 (
(aBin .add (S [47]) a0).bind fun v172 =>
retK (O (.call 10) [v172] m169 []) (fun v173 m174 =>
(aUn .not v173).bind fun v176 =>
br v176 (
(aBin .add a0 (S [47, 98])).bind fun v177 =>
retK (O (.call 12) [v177] m174 []) (fun v178 m179 =>
(aUn .not v178).bind fun v181 =>
br v181 (
retK (O (.call 9) [] m179 []) (fun v182 m183 =>
some ⟨.ret, [v182], m183, []⟩) (fun p184 m185 => some ⟨.panic p184, [], m185, []⟩)) (
some ⟨.ret, [(.bool false)], m179, []⟩)) (fun p180 m186 => some ⟨.panic p180, [], m186, []⟩)) (
some ⟨.ret, [(.bool false)], m174, []⟩)) (fun p175 m187 => some ⟨.panic p175, [], m187, []⟩)) (
some ⟨.ret, [(.bool false)], m169, []⟩)) (fun p170 m188 => some ⟨.panic p170, [], m188, []⟩))) (fun p139 m189 => some ⟨.panic p139, [], m189, []⟩))) (fun p14 m190 => some ⟨.panic p14, [], m190, []⟩)))
theorem R4 {a0 a1 : Value} {m : Mem} {r : Out} (h : (x4 (LV CV) a0 a1 ⟨[], m.next, m.next, 0⟩).bind (close m) = some r) (hc : [a0, a1].all (clo FUEL) = true := by simp) : LV CV (.call 4) [a0, a1] m [] = some r := R_callP (C := CV) (fn := ir4) rfl rfl rfl (Nat.le_of_ble_eq_true rfl) hc (x := x4 (LV CV) a0 a1 ⟨[], m.next, m.next, 0⟩) (by kernel_rfl) h
/-- noonmark/noonmarklaw08.KeywordWords -/
def x5 (O : Orc) (a0 a1 : Value) (m : Mem) : Option Out :=
(aLenS a0).bind fun v0 =>
(aBin .gtr v0 (.int .i64 (200))).bind fun v1 =>
br v1 (
retK (O (.call 9) [] m []) (fun v2 m3 =>
some ⟨.ret, [v2], m3, []⟩) (fun p4 m5 => some ⟨.panic p4, [], m5, []⟩)) (
retK (O (.call 14) [a0] m []) (fun v6 m7 =>
retK (O (.call 15) [a0] m7 []) (fun v9 m10 =>
(aBin .eql v6 v9).bind fun v12 =>
br v12 (
retK (O (.call 16) [a0] m10 []) (fun v13 m14 =>
retK (O (.call 17) [a0] m14 []) (fun v16 m17 =>
(aBin .eql v13 v16).bind fun v19 =>
br v19 (
retK (O (.call 18) [a1] m17 []) (fun v20 m21 =>
retK (O (.call 19) [a1] m21 []) (fun v23 m24 =>
(aBin .eql v20 v23).bind fun v26 =>
br v26 (
retK (O (.call 9) [] m24 []) (fun v27 m28 =>
some ⟨.ret, [v27], m28, []⟩) (fun p29 m30 => some ⟨.panic p29, [], m30, []⟩)) (
some ⟨.ret, [(.bool false)], m24, []⟩)) (fun p25 m31 => some ⟨.panic p25, [], m31, []⟩)) (fun p22 m32 => some ⟨.panic p22, [], m32, []⟩)) (
some ⟨.ret, [(.bool false)], m17, []⟩)) (fun p18 m33 => some ⟨.panic p18, [], m33, []⟩)) (fun p15 m34 => some ⟨.panic p15, [], m34, []⟩)) (
some ⟨.ret, [(.bool false)], m10, []⟩)) (fun p11 m35 => some ⟨.panic p11, [], m35, []⟩)) (fun p8 m36 => some ⟨.panic p8, [], m36, []⟩))
theorem R5 {a0 a1 : Value} {m : Mem} {r : Out} (h : (x5 (LV CV) a0 a1 ⟨[], m.next, m.next, 0⟩).bind (close m) = some r) (hc : [a0, a1].all (clo FUEL) = true := by simp) : LV CV (.call 5) [a0, a1] m [] = some r := R_callP (C := CV) (fn := ir5) rfl rfl rfl (Nat.le_of_ble_eq_true rfl) hc (x := x5 (LV CV) a0 a1 ⟨[], m.next, m.next, 0⟩) (by kernel_rfl) h
/-- noonmark/noonmarklaw08.KeywordLonger -/
def x6 (O : Orc) (a0 a1 a2 : Value) (m : Mem) : Option Out :=
(aBin .lss a0 (.int .i64 (1))).bind fun v0 =>
br v0 (
retK (O (.call 9) [] m []) (fun v1 m2 =>
some ⟨.ret, [v1], m2, []⟩) (fun p3 m4 => some ⟨.panic p3, [], m4, []⟩)) (
(aBin .gtr a0 (.int .i64 (12))).bind fun v5 =>
br v5 (
retK (O (.call 9) [] m []) (fun v6 m7 =>
some ⟨.ret, [v6], m7, []⟩) (fun p8 m9 => some ⟨.panic p8, [], m9, []⟩)) (
(aBin .lss a1 (.int .i64 (1))).bind fun v10 =>
br v10 (
retK (O (.call 9) [] m []) (fun v11 m12 =>
some ⟨.ret, [v11], m12, []⟩) (fun p13 m14 => some ⟨.panic p13, [], m14, []⟩)) (
(aBin .gtr a1 (.int .i64 (9))).bind fun v15 =>
br v15 (
retK (O (.call 9) [] m []) (fun v16 m17 =>
some ⟨.ret, [v16], m17, []⟩) (fun p18 m19 => some ⟨.panic p18, [], m19, []⟩)) (
(vLit 1 12 [(S [])] [(0, (S [106, 97, 110, 117, 97, 114, 121])), (1, (S [102, 101, 98, 114, 117, 97, 114, 121])), (2, (S [109, 97, 114, 99, 104])), (3, (S [97, 112, 114, 105, 108])), (4, (S [109, 97, 121])), (5, (S [106, 117, 110, 101])), (6, (S [106, 117, 108, 121])), (7, (S [97, 117, 103, 117, 115, 116])), (8, (S [115, 101, 112, 116, 101, 109, 98, 101, 114])), (9, (S [111, 99, 116, 111, 98, 101, 114])), (10, (S [110, 111, 118, 101, 109, 98, 101, 114])), (11, (S [100, 101, 99, 101, 109, 98, 101, 114]))] m).bind fun r20 =>
(aBin .sub a0 (.int .i64 (1))).bind fun v21 =>
(vIdx 1 r20.1 v21).bind fun v22 =>
(vLd 1 false v22 r20.2).bind fun v23 =>
cutN (
(aLenS v23).bind fun v29 =>
(aBin .gtr a1 v29).bind fun v30 =>
br v30 (
(aLenS v23).bind fun v31 =>
some ⟨.normal, [a0, v31, a2, v23], r20.2, []⟩) (
some ⟨.normal, [a0, a1, a2, v23], r20.2, []⟩)) (fun w24 m25 =>
(aCutStr (w24.getD 3 undef) none (some (w24.getD 1 undef))).bind fun v32 =>
cutN (
br (w24.getD 2 undef) (
(aBytes v32 m25).bind fun r38 =>
(vIdx 1 r38.1 (.int .i64 (0))).bind fun v39 =>
(vLd 1 false v39 r38.2).bind fun v40 =>
(aBin .sub v40 (.int .u8 (32))).bind fun v41 =>
(vIdx 1 r38.1 (.int .i64 (0))).bind fun v42 =>
(aSt 1 v42 v41 r38.2).bind fun m43 =>
(vStr r38.1 m43).bind fun v44 =>
some ⟨.normal, [(w24.getD 0 undef), (w24.getD 1 undef), (w24.getD 3 undef), v44], m43, []⟩) (
some ⟨.normal, [(w24.getD 0 undef), (w24.getD 1 undef), (w24.getD 3 undef), v32], m25, []⟩)) (fun w33 m34 =>
retK (O (.call 16) [(w33.getD 3 undef)] m34 []) (fun v45 m46 =>
(aBin .add (w33.getD 1 undef) (.int .i64 (1))).bind fun v48 =>
(aLenS (w33.getD 2 undef)).bind fun v49 =>
(aMax false [v48, v49]).bind fun v50 =>
(aCutStr (w33.getD 2 undef) none (some v50)).bind fun v51 =>
retK (O (.call 16) [v51] m46 []) (fun v52 m53 =>
(aBin .eql v45 (.int .i64 (0))).bind fun v55 =>
br v55 (
(aBin .eql v45 (.int .i64 (0))).bind fun v56 =>
br v56 (
retK (O (.call 16) [(w33.getD 2 undef)] m53 []) (fun v57 m58 =>
(aBin .eql v57 (w33.getD 0 undef)).bind fun v60 =>
br v60 (
(aLenS (w33.getD 2 undef)).bind fun v61 =>
(aMax false [(.int .i64 (3)), v61]).bind fun v62 =>
(aCutStr (w33.getD 2 undef) none (some v62)).bind fun v63 =>
retK (O (.call 16) [v63] m58 []) (fun v64 m65 =>
(aBin .eql v64 (w33.getD 0 undef)).bind fun v67 =>
br v67 (
retK (O (.call 18) [(w33.getD 0 undef)] m65 []) (fun v68 m69 =>
retK (O (.call 16) [v68] m69 []) (fun v71 m72 =>
(aBin .eql v71 (w33.getD 0 undef)).bind fun v74 =>
br v74 (
retK (O (.call 9) [] m72 []) (fun v75 m76 =>
some ⟨.ret, [v75], m76, []⟩) (fun p77 m78 => some ⟨.panic p77, [], m78, []⟩)) (
some ⟨.ret, [(.bool false)], m72, []⟩)) (fun p73 m79 => some ⟨.panic p73, [], m79, []⟩)) (fun p70 m80 => some ⟨.panic p70, [], m80, []⟩)) (
some ⟨.ret, [(.bool false)], m65, []⟩)) (fun p66 m81 => some ⟨.panic p66, [], m81, []⟩)) (
some ⟨.ret, [(.bool false)], m58, []⟩)) (fun p59 m82 => some ⟨.panic p59, [], m82, []⟩)) (
(aBin .eql v52 (w33.getD 0 undef)).bind fun v83 =>
br v83 (
retK (O (.call 16) [(w33.getD 2 undef)] m53 []) (fun v84 m85 =>
(aBin .eql v84 (w33.getD 0 undef)).bind fun v87 =>
br v87 (
(aLenS (w33.getD 2 undef)).bind fun v88 =>
(aMax false [(.int .i64 (3)), v88]).bind fun v89 =>
(aCutStr (w33.getD 2 undef) none (some v89)).bind fun v90 =>
retK (O (.call 16) [v90] m85 []) (fun v91 m92 =>
(aBin .eql v91 (w33.getD 0 undef)).bind fun v94 =>
br v94 (
retK (O (.call 18) [(w33.getD 0 undef)] m92 []) (fun v95 m96 =>
retK (O (.call 16) [v95] m96 []) (fun v98 m99 =>
(aBin .eql v98 (w33.getD 0 undef)).bind fun v101 =>
br v101 (
retK (O (.call 9) [] m99 []) (fun v102 m103 =>
some ⟨.ret, [v102], m103, []⟩) (fun p104 m105 => some ⟨.panic p104, [], m105, []⟩)) (
some ⟨.ret, [(.bool false)], m99, []⟩)) (fun p100 m106 => some ⟨.panic p100, [], m106, []⟩)) (fun p97 m107 => some ⟨.panic p97, [], m107, []⟩)) (
some ⟨.ret, [(.bool false)], m92, []⟩)) (fun p93 m108 => some ⟨.panic p93, [], m108, []⟩)) (
some ⟨.ret, [(.bool false)], m85, []⟩)) (fun p86 m109 => some ⟨.panic p86, [], m109, []⟩)) (
some ⟨.ret, [(.bool false)], m53, []⟩))) (
(aBin .eql v45 (w33.getD 0 undef)).bind fun v110 =>
br v110 (
(aBin .eql v45 (.int .i64 (0))).bind fun v111 =>
br v111 (
retK (O (.call 16) [(w33.getD 2 undef)] m53 []) (fun v112 m113 =>
(aBin .eql v112 (w33.getD 0 undef)).bind fun v115 =>
br v115 (
(aLenS (w33.getD 2 undef)).bind fun v116 =>
(aMax false [(.int .i64 (3)), v116]).bind fun v117 =>
(aCutStr (w33.getD 2 undef) none (some v117)).bind fun v118 =>
retK (O (.call 16) [v118] m113 []) (fun v119 m120 =>
(aBin .eql v119 (w33.getD 0 undef)).bind fun v122 =>
br v122 (
retK (O (.call 18) [(w33.getD 0 undef)] m120 []) (fun v123 m124 =>
retK (O (.call 16) [v123] m124 []) (fun v126 m127 =>
(aBin .eql v126 (w33.getD 0 undef)).bind fun v129 =>
br v129 (
retK (O (.call 9) [] m127 []) (fun v130 m131 =>
some ⟨.ret, [v130], m131, []⟩) (fun p132 m133 => some ⟨.panic p132, [], m133, []⟩)) (
some ⟨.ret, [(.bool false)], m127, []⟩)) (fun p128 m134 => some ⟨.panic p128, [], m134, []⟩)) (fun p125 m135 => some ⟨.panic p125, [], m135, []⟩)) (
some ⟨.ret, [(.bool false)], m120, []⟩)) (fun p121 m136 => some ⟨.panic p121, [], m136, []⟩)) (
some ⟨.ret, [(.bool false)], m113, []⟩)) (fun p114 m137 => some ⟨.panic p114, [], m137, []⟩)) (
(aBin .eql v52 (w33.getD 0 undef)).bind fun v138 =>
br v138 (
retK (O (.call 16) [(w33.getD 2 undef)] m53 []) (fun v139 m140 =>
(aBin .eql v139 (w33.getD 0 undef)).bind fun v142 =>
br v142 (
(aLenS (w33.getD 2 undef)).bind fun v143 =>
(aMax false [(.int .i64 (3)), v143]).bind fun v144 =>
(aCutStr (w33.getD 2 undef) none (some v144)).bind fun v145 =>
retK (O (.call 16) [v145] m140 []) (fun v146 m147 =>
(aBin .eql v146 (w33.getD 0 undef)).bind fun v149 =>
br v149 (
retK (O (.call 18) [(w33.getD 0 undef)] m147 []) (fun v150 m151 =>
retK (O (.call 16) [v150] m151 []) (fun v153 m154 =>
(aBin .eql v153 (w33.getD 0 undef)).bind fun v156 =>
br v156 (
retK (O (.call 9) [] m154 []) (fun v157 m158 =>
some ⟨.ret, [v157], m158, []⟩) (fun p159 m160 => some ⟨.panic p159, [], m160, []⟩)) (
some ⟨.ret, [(.bool false)], m154, []⟩)) (fun p155 m161 => some ⟨.panic p155, [], m161, []⟩)) (fun p152 m162 => some ⟨.panic p152, [], m162, []⟩)) (
some ⟨.ret, [(.bool false)], m147, []⟩)) (fun p148 m163 => some ⟨.panic p148, [], m163, []⟩)) (
some ⟨.ret, [(.bool false)], m140, []⟩)) (fun p141 m164 => some ⟨.panic p141, [], m164, []⟩)) (
some ⟨.ret, [(.bool false)], m53, []⟩))) (
some ⟨.ret, [(.bool false)], m53, []⟩))) (fun p54 m165 => some ⟨.panic p54, [], m165, []⟩)) (fun p47 m166 => some ⟨.panic p47, [], m166, []⟩)) (fun id36 w33 m34 =>
none) (fun w33 m34 =>
some ⟨.ret, [undef], m34, []⟩) (fun p37 w33 m34 =>
some ⟨.panic p37, [], m34, []⟩)) (fun id27 w24 m25 =>
none) (fun w24 m25 =>
some ⟨.ret, [undef], m25, []⟩) (fun p28 w24 m25 =>
some ⟨.panic p28, [], m25, []⟩)))))
theorem R6 {a0 a1 a2 : Value} {m : Mem} {r : Out} (h : (x6 (LV CV) a0 a1 a2 ⟨[], m.next, m.next, 0⟩).bind (close m) = some r) (hc : [a0, a1, a2].all (clo FUEL) = true := by simp) : LV CV (.call 6) [a0, a1, a2] m [] = some r := R_callP (C := CV) (fn := ir6) rfl rfl rfl (Nat.le_of_ble_eq_true rfl) hc (x := x6 (LV CV) a0 a1 a2 ⟨[], m.next, m.next, 0⟩) (by kernel_rfl) h
/-- noonmark/noonmarklaw08.KeywordYears -/
def x7 (O : Orc) (a0 a1 a2 : Value) (m : Mem) : Option Out :=
(aLenS a0).bind fun v0 =>
(aBin .gtr v0 (.int .i64 (200))).bind fun v1 =>
br v1 (
retK (O (.call 9) [] m []) (fun v2 m3 =>
some ⟨.ret, [v2], m3, []⟩) (fun p4 m5 => some ⟨.panic p4, [], m5, []⟩)) (
retK (O (.call 20) [a0] m []) (fun v6 m7 =>
(aExtract 0 v6).bind fun v9 =>
(aExtract 1 v6).bind fun v10 =>
retK (O (.call 21) [a0] m7 []) (fun v11 m12 =>
(aExtract 0 v11).bind fun v14 =>
(aExtract 1 v11).bind fun v15 =>
retK (O (.call 22) [a0, a1] m12 []) (fun v16 m17 =>
(aExtract 0 v16).bind fun v19 =>
(aExtract 1 v16).bind fun v20 =>
retK (O (.call 23) [a0, a1] m17 []) (fun v21 m22 =>
(aExtract 0 v21).bind fun v24 =>
(aExtract 1 v21).bind fun v25 =>
retK (O (.call 24) [a1, a2] m22 []) (fun v26 m27 =>
(aExtract 0 v26).bind fun v29 =>
(aExtract 1 v26).bind fun v30 =>
retK (O (.call 25) [a1, a2] m27 []) (fun v31 m32 =>
(aExtract 0 v31).bind fun v34 =>
(aExtract 1 v31).bind fun v35 =>
(aBin .eql v9 v14).bind fun v36 =>
br v36 (
(aBin .eql v10 v15).bind fun v37 =>
br v37 (
(aBin .eql v19 v24).bind fun v38 =>
br v38 (
(aBin .eql v20 v25).bind fun v39 =>
br v39 (
(aBin .eql v29 v34).bind fun v40 =>
br v40 (
(aBin .eql v30 v35).bind fun v41 =>
br v41 (
retK (O (.call 9) [] m32 []) (fun v42 m43 =>
some ⟨.ret, [v42], m43, []⟩) (fun p44 m45 => some ⟨.panic p44, [], m45, []⟩)) (
some ⟨.ret, [(.bool false)], m32, []⟩)) (
some ⟨.ret, [(.bool false)], m32, []⟩)) (
some ⟨.ret, [(.bool false)], m32, []⟩)) (
some ⟨.ret, [(.bool false)], m32, []⟩)) (
some ⟨.ret, [(.bool false)], m32, []⟩)) (
some ⟨.ret, [(.bool false)], m32, []⟩)) (fun p33 m46 => some ⟨.panic p33, [], m46, []⟩)) (fun p28 m47 => some ⟨.panic p28, [], m47, []⟩)) (fun p23 m48 => some ⟨.panic p23, [], m48, []⟩)) (fun p18 m49 => some ⟨.panic p18, [], m49, []⟩)) (fun p13 m50 => some ⟨.panic p13, [], m50, []⟩)) (fun p8 m51 => some ⟨.panic p8, [], m51, []⟩))
theorem R7 {a0 a1 a2 : Value} {m : Mem} {r : Out} (h : (x7 (LV CV) a0 a1 a2 ⟨[], m.next, m.next, 0⟩).bind (close m) = some r) (hc : [a0, a1, a2].all (clo FUEL) = true := by simp) : LV CV (.call 7) [a0, a1, a2] m [] = some r := R_callP (C := CV) (fn := ir7) rfl rfl rfl (Nat.le_of_ble_eq_true rfl) hc (x := x7 (LV CV) a0 a1 a2 ⟨[], m.next, m.next, 0⟩) (by kernel_rfl) h
/-- noonmark/noonmarklaw08.KeywordBack -/
def x8 (O : Orc) (a0 a1 : Value) (m : Mem) : Option Out :=
retK (O (.call 24) [a0, a1] m []) (fun v0 m1 =>
(aExtract 0 v0).bind fun v3 =>
(aExtract 1 v0).bind fun v4 =>
(aBin .neq v4 (.int .i64 (0))).bind fun v5 =>
br v5 (
(aBin .eql v3 (S [])).bind fun v6 =>
br v6 (
(aBin .eql v4 (.int .i64 (8))).bind fun v7 =>
br v7 (
retK (O (.call 9) [] m1 []) (fun v8 m9 =>
some ⟨.ret, [v8], m9, []⟩) (fun p10 m11 => some ⟨.panic p10, [], m11, []⟩)) (
some ⟨.ret, [(.bool false)], m1, []⟩)) (
some ⟨.ret, [(.bool false)], m1, []⟩)) (
retK (O (.call 22) [v3, a0] m1 []) (fun v12 m13 =>
(aExtract 0 v12).bind fun v15 =>
(aExtract 1 v12).bind fun v16 =>
(aBin .eql v16 (.int .i64 (0))).bind fun v17 =>
br v17 (
(aBin .eql v15 a1).bind fun v18 =>
br v18 (
(aBin .eql v3 (S [111, 110, 108, 121])).bind fun v19 =>
(aBin .eql a0 a1).bind fun v20 =>
(aEqB false v19 v20).bind fun v21 =>
br v21 (
(aBin .eql v3 (S [109, 97, 120])).bind fun v22 =>
(aBin .eql a1 (.int .i64 (10000))).bind fun v23 =>
(aEqB false v22 v23).bind fun v24 =>
br v24 (
retK (O (.call 9) [] m13 []) (fun v25 m26 =>
some ⟨.ret, [v25], m26, []⟩) (fun p27 m28 => some ⟨.panic p27, [], m28, []⟩)) (
some ⟨.ret, [(.bool false)], m13, []⟩)) (
some ⟨.ret, [(.bool false)], m13, []⟩)) (
some ⟨.ret, [(.bool false)], m13, []⟩)) (
some ⟨.ret, [(.bool false)], m13, []⟩)) (fun p14 m29 => some ⟨.panic p14, [], m29, []⟩))) (fun p2 m30 => some ⟨.panic p2, [], m30, []⟩)
theorem R8 {a0 a1 : Value} {m : Mem} {r : Out} (h : (x8 (LV CV) a0 a1 ⟨[], m.next, m.next, 0⟩).bind (close m) = some r) (hc : [a0, a1].all (clo FUEL) = true := by simp) : LV CV (.call 8) [a0, a1] m [] = some r := R_callP (C := CV) (fn := ir8) rfl rfl rfl (Nat.le_of_ble_eq_true rfl) hc (x := x8 (LV CV) a0 a1 ⟨[], m.next, m.next, 0⟩) (by kernel_rfl) h
def y1000 (O : Orc) (b0 b1 b2 b3 : Value) (m : Mem) : Option Out :=
(aBin .lss b3 b2).bind fun v0 =>
br v0 (
(vIdx 1 b1 b3).bind fun v1 =>
(vLd 1 false v1 m).bind fun v2 =>
retK (O (.call 27) [v2, (S [43, 45, 95]), (S [45])] m []) (fun v3 m4 =>
(aUn .not v3).bind fun v6 =>
br v6 (
some ⟨.ret, [(.bool false), b1, b2, b3], m4, []⟩) (
(aBin .add b3 (.int .i64 (1))).bind fun v7 =>
O (.loop 1000) [b0, b1, b2, v7] m4 [])) (fun p5 m8 => some ⟨.panic p5, [b0, b1, b2, b3], m8, []⟩)) (
some ⟨.exit 0, [b0, b1, b2, b3], m, []⟩)
theorem Q1000 {b0 b1 b2 b3 : Value} {m : Mem} {r : Out} (h : y1000 (LV CV) b0 b1 b2 b3 m = some r) : LV CV (.loop 1000) [b0, b1, b2, b3] m [] = some r := R_loopV (C := CV) (keep := [2, 9, 10, 11]) (b := lb1000) rfl (x := y1000 (LV CV) b0 b1 b2 b3 m) (by kernel_rfl) h
/-- noonmark/keyword.Zone -/
def x10 (O : Orc) (a0 : Value) (m : Mem) : Option Out :=
(aLenS a0).bind fun v0 =>
(aBin .gtr v0 (.int .i64 (30))).bind fun v1 =>
br v1 (
some ⟨.ret, [(.bool false)], m, []⟩) (
retK (O (.call 26) [a0, (S [47])] m []) (fun v2 m3 =>
(vLenL v2).bind fun v5 =>
lpN (O (.loop 1000) [(.bool false), v2, v5, (.int .i64 (0))] m3 []) (fun id9 w6 m7 =>
if id9 = 0 then
some ⟨.ret, [(.bool true)], m7, []⟩ else
none) (fun w6 m7 =>
some ⟨.ret, [(w6.getD 0 undef)], m7, []⟩) (fun p10 w6 m7 =>
some ⟨.panic p10, [], m7, []⟩)) (fun p4 m11 => some ⟨.panic p4, [], m11, []⟩))
theorem R10 {a0 : Value} {m : Mem} {r : Out} (h : (x10 (LV CV) a0 ⟨[], m.next, m.next, 0⟩).bind (close m) = some r) (hc : [a0].all (clo FUEL) = true := by simp) : LV CV (.call 10) [a0] m [] = some r := R_callP (C := CV) (fn := ir10) rfl rfl rfl (Nat.le_of_ble_eq_true rfl) hc (x := x10 (LV CV) a0 ⟨[], m.next, m.next, 0⟩) (by kernel_rfl) h
def y1100 (O : Orc) (b0 b1 b2 b3 : Value) (m : Mem) : Option Out :=
(aLenS b0).bind fun v0 =>
(aBin .lss b3 v0).bind fun v1 =>
br v1 (
(aByte b0 b3).bind fun v2 =>
(aBin .eql v2 (.int .u8 (47))).bind fun v3 =>
br v3 (
br b2 (
some ⟨.ret, [b0, (.bool false), b2, b3], m, []⟩) (
(aBin .add b3 (.int .i64 (1))).bind fun v4 =>
O (.loop 1100) [b0, b1, (.bool true), v4] m [])) (
retK (O (.call 28) [v2] m []) (fun v5 m6 =>
(aUn .not v5).bind fun v8 =>
br v8 (
retK (O (.call 29) [v2] m6 []) (fun v9 m10 =>
(aUn .not v9).bind fun v12 =>
br v12 (
(aBin .neq v2 (.int .u8 (43))).bind fun v13 =>
br v13 (
(aBin .neq v2 (.int .u8 (95))).bind fun v14 =>
br v14 (
(aBin .neq v2 (.int .u8 (45))).bind fun v15 =>
br v15 (
some ⟨.ret, [b0, (.bool false), b2, b3], m10, []⟩) (
br b2 (
some ⟨.ret, [b0, (.bool false), b2, b3], m10, []⟩) (
(aBin .add b3 (.int .i64 (1))).bind fun v16 =>
O (.loop 1100) [b0, b1, (.bool false), v16] m10 []))) (
(aBin .add b3 (.int .i64 (1))).bind fun v17 =>
O (.loop 1100) [b0, b1, (.bool false), v17] m10 [])) (
(aBin .add b3 (.int .i64 (1))).bind fun v18 =>
O (.loop 1100) [b0, b1, (.bool false), v18] m10 [])) (
(aBin .add b3 (.int .i64 (1))).bind fun v19 =>
O (.loop 1100) [b0, b1, (.bool false), v19] m10 [])) (fun p11 m20 => some ⟨.panic p11, [b0, b1, b2, b3], m20, []⟩)) (
(aBin .add b3 (.int .i64 (1))).bind fun v21 =>
O (.loop 1100) [b0, b1, (.bool false), v21] m6 [])) (fun p7 m22 => some ⟨.panic p7, [b0, b1, b2, b3], m22, []⟩))) (
some ⟨.exit 0, [b0, b1, b2, b3], m, []⟩)
theorem Q1100 {b0 b1 b2 b3 : Value} {m : Mem} {r : Out} (h : y1100 (LV CV) b0 b1 b2 b3 m = some r) : LV CV (.loop 1100) [b0, b1, b2, b3] m [] = some r := R_loopV (C := CV) (keep := [0, 2, 3, 4]) (b := lb1100) rfl (x := y1100 (LV CV) b0 b1 b2 b3 m) (by kernel_rfl) h
/-- noonmark/noonmarkref08.Zone -/
def x11 (O : Orc) (a0 : Value) (m : Mem) : Option Out :=
(aLenS a0).bind fun v0 =>
(aBin .lss v0 (.int .i64 (1))).bind fun v1 =>
br v1 (
some ⟨.ret, [(.bool false)], m, []⟩) (
(aLenS a0).bind fun v2 =>
(aBin .gtr v2 (.int .i64 (30))).bind fun v3 =>
br v3 (
some ⟨.ret, [(.bool false)], m, []⟩) (
lpN (O (.loop 1100) [a0, (.bool false), (.bool true), (.int .i64 (0))] m []) (fun id7 w4 m5 =>
if id7 = 0 then
(aUn .not (w4.getD 2 undef)).bind fun v9 =>
some ⟨.ret, [v9], m5, []⟩ else
none) (fun w4 m5 =>
some ⟨.ret, [(w4.getD 1 undef)], m5, []⟩) (fun p8 w4 m5 =>
some ⟨.panic p8, [], m5, []⟩)))
theorem R11 {a0 : Value} {m : Mem} {r : Out} (h : (x11 (LV CV) a0 ⟨[], m.next, m.next, 0⟩).bind (close m) = some r) (hc : [a0].all (clo FUEL) = true := by simp) : LV CV (.call 11) [a0] m [] = some r := R_callP (C := CV) (fn := ir11) rfl rfl rfl (Nat.le_of_ble_eq_true rfl) hc (x := x11 (LV CV) a0 ⟨[], m.next, m.next, 0⟩) (by kernel_rfl) h
/-- noonmark/keyword.Rule -/
def x12 (O : Orc) (a0 : Value) (m : Mem) : Option Out :=
(aLenS a0).bind fun v0 =>
(aBin .leq v0 (.int .i64 (30))).bind fun v1 =>
br v1 (
retK (O (.call 27) [a0, (S [45, 95]), (S [45, 48, 49, 50, 51, 52, 53, 54, 55, 56, 57])] m []) (fun v2 m3 =>
some ⟨.ret, [v2], m3, []⟩) (fun p4 m5 => some ⟨.panic p4, [], m5, []⟩)) (
some ⟨.ret, [(.bool false)], m, []⟩)
theorem R12 {a0 : Value} {m : Mem} {r : Out} (h : (x12 (LV CV) a0 ⟨[], m.next, m.next, 0⟩).bind (close m) = some r) (hc : [a0].all (clo FUEL) = true := by simp) : LV CV (.call 12) [a0] m [] = some r := R_callP (C := CV) (fn := ir12) rfl rfl rfl (Nat.le_of_ble_eq_true rfl) hc (x := x12 (LV CV) a0 ⟨[], m.next, m.next, 0⟩) (by kernel_rfl) h
def y1300 (O : Orc) (b0 b1 b2 : Value) (m : Mem) : Option Out :=
(aLenS b0).bind fun v0 =>
(aBin .lss b2 v0).bind fun v1 =>
br v1 (
(aByte b0 b2).bind fun v2 =>
retK (O (.call 28) [v2] m []) (fun v3 m4 =>
(aUn .not v3).bind fun v6 =>
br v6 (
(aByte b0 b2).bind fun v7 =>
retK (O (.call 29) [v7] m4 []) (fun v8 m9 =>
(aUn .not v8).bind fun v11 =>
br v11 (
(aByte b0 b2).bind fun v12 =>
(aBin .neq v12 (.int .u8 (45))).bind fun v13 =>
br v13 (
(aByte b0 b2).bind fun v14 =>
(aBin .neq v14 (.int .u8 (95))).bind fun v15 =>
br v15 (
some ⟨.ret, [b0, (.bool false), b2], m9, []⟩) (
(aBin .add b2 (.int .i64 (1))).bind fun v16 =>
O (.loop 1300) [b0, b1, v16] m9 [])) (
(aBin .add b2 (.int .i64 (1))).bind fun v17 =>
O (.loop 1300) [b0, b1, v17] m9 [])) (
(aBin .add b2 (.int .i64 (1))).bind fun v18 =>
O (.loop 1300) [b0, b1, v18] m9 [])) (fun p10 m19 => some ⟨.panic p10, [b0, b1, b2], m19, []⟩)) (
(aBin .add b2 (.int .i64 (1))).bind fun v20 =>
O (.loop 1300) [b0, b1, v20] m4 [])) (fun p5 m21 => some ⟨.panic p5, [b0, b1, b2], m21, []⟩)) (
some ⟨.exit 0, [b0, b1, b2], m, []⟩)
theorem Q1300 {b0 b1 b2 : Value} {m : Mem} {r : Out} (h : y1300 (LV CV) b0 b1 b2 m = some r) : LV CV (.loop 1300) [b0, b1, b2] m [] = some r := R_loopV (C := CV) (keep := [0, 2, 3]) (b := lb1300) rfl (x := y1300 (LV CV) b0 b1 b2 m) (by kernel_rfl) h
/-- noonmark/noonmarkref08.Rule -/
def x13 (O : Orc) (a0 : Value) (m : Mem) : Option Out :=
(aLenS a0).bind fun v0 =>
(aBin .lss v0 (.int .i64 (1))).bind fun v1 =>
br v1 (
some ⟨.ret, [(.bool false)], m, []⟩) (
(aLenS a0).bind fun v2 =>
(aBin .gtr v2 (.int .i64 (30))).bind fun v3 =>
br v3 (
some ⟨.ret, [(.bool false)], m, []⟩) (
(aByte a0 (.int .i64 (0))).bind fun v4 =>
retK (O (.call 28) [v4] m []) (fun v5 m6 =>
(aUn .not v5).bind fun v8 =>
br v8 (
(aByte a0 (.int .i64 (0))).bind fun v9 =>
(aBin .neq v9 (.int .u8 (95))).bind fun v10 =>
br v10 (
some ⟨.ret, [(.bool false)], m6, []⟩) (
lpN (O (.loop 1300) [a0, (.bool false), (.int .i64 (1))] m6 []) (fun id14 w11 m12 =>
if id14 = 0 then
some ⟨.ret, [(.bool true)], m12, []⟩ else
none) (fun w11 m12 =>
some ⟨.ret, [(w11.getD 1 undef)], m12, []⟩) (fun p15 w11 m12 =>
some ⟨.panic p15, [], m12, []⟩))) (
lpN (O (.loop 1300) [a0, (.bool false), (.int .i64 (1))] m6 []) (fun id19 w16 m17 =>
if id19 = 0 then
some ⟨.ret, [(.bool true)], m17, []⟩ else
none) (fun w16 m17 =>
some ⟨.ret, [(w16.getD 1 undef)], m17, []⟩) (fun p20 w16 m17 =>
some ⟨.panic p20, [], m17, []⟩))) (fun p7 m21 => some ⟨.panic p7, [], m21, []⟩)))
theorem R13 {a0 : Value} {m : Mem} {r : Out} (h : (x13 (LV CV) a0 ⟨[], m.next, m.next, 0⟩).bind (close m) = some r) (hc : [a0].all (clo FUEL) = true := by simp) : LV CV (.call 13) [a0] m [] = some r := R_callP (C := CV) (fn := ir13) rfl rfl rfl (Nat.le_of_ble_eq_true rfl) hc (x := x13 (LV CV) a0 ⟨[], m.next, m.next, 0⟩) (by kernel_rfl) h
/-- noonmark/keyword.Head -/
def x14 (O : Orc) (a0 : Value) (m : Mem) : Option Out :=
(vLit 1 3 [(S [])] [(0, (S [114, 117, 108, 101])), (1, (S [122, 111, 110, 101])), (2, (S [108, 105, 110, 107]))] m).bind fun r0 =>
retK (O (.call 30) [a0, r0.1] r0.2 []) (fun v1 m2 =>
some ⟨.ret, [v1], m2, []⟩) (fun p3 m4 => some ⟨.panic p3, [], m4, []⟩)
theorem R14 {a0 : Value} {m : Mem} {r : Out} (h : (x14 (LV CV) a0 ⟨[], m.next, m.next, 0⟩).bind (close m) = some r) (hc : [a0].all (clo FUEL) = true := by simp) : LV CV (.call 14) [a0] m [] = some r := R_callP (C := CV) (fn := ir14) rfl rfl rfl (Nat.le_of_ble_eq_true rfl) hc (x := x14 (LV CV) a0 ⟨[], m.next, m.next, 0⟩) (by kernel_rfl) h
/-- noonmark/noonmarkref08.Head -/
def x15 (O : Orc) (a0 : Value) (m : Mem) : Option Out :=
(vLit 1 3 [(S [])] [(0, (S [114, 117, 108, 101])), (1, (S [122, 111, 110, 101])), (2, (S [108, 105, 110, 107]))] m).bind fun r0 =>
retK (O (.call 31) [a0, r0.1] r0.2 []) (fun v1 m2 =>
some ⟨.ret, [v1], m2, []⟩) (fun p3 m4 => some ⟨.panic p3, [], m4, []⟩)
theorem R15 {a0 : Value} {m : Mem} {r : Out} (h : (x15 (LV CV) a0 ⟨[], m.next, m.next, 0⟩).bind (close m) = some r) (hc : [a0].all (clo FUEL) = true := by simp) : LV CV (.call 15) [a0] m [] = some r := R_callP (C := CV) (fn := ir15) rfl rfl rfl (Nat.le_of_ble_eq_true rfl) hc (x := x15 (LV CV) a0 ⟨[], m.next, m.next, 0⟩) (by kernel_rfl) h
/-- noonmark/keyword.Month -/
def x16 (O : Orc) (a0 : Value) (m : Mem) : Option Out :=
retK (O (.call 32) [] m []) (fun v0 m1 =>
retK (O (.call 30) [a0, v0] m1 []) (fun v3 m4 =>
some ⟨.ret, [v3], m4, []⟩) (fun p5 m6 => some ⟨.panic p5, [], m6, []⟩)) (fun p2 m7 => some ⟨.panic p2, [], m7, []⟩)
theorem R16 {a0 : Value} {m : Mem} {r : Out} (h : (x16 (LV CV) a0 ⟨[], m.next, m.next, 0⟩).bind (close m) = some r) (hc : [a0].all (clo FUEL) = true := by simp) : LV CV (.call 16) [a0] m [] = some r := R_callP (C := CV) (fn := ir16) rfl rfl rfl (Nat.le_of_ble_eq_true rfl) hc (x := x16 (LV CV) a0 ⟨[], m.next, m.next, 0⟩) (by kernel_rfl) h
/-- noonmark/noonmarkref08.Month -/
def x17 (O : Orc) (a0 : Value) (m : Mem) : Option Out :=
retK (O (.call 33) [] m []) (fun v0 m1 =>
retK (O (.call 31) [a0, v0] m1 []) (fun v3 m4 =>
some ⟨.ret, [v3], m4, []⟩) (fun p5 m6 => some ⟨.panic p5, [], m6, []⟩)) (fun p2 m7 => some ⟨.panic p2, [], m7, []⟩)
theorem R17 {a0 : Value} {m : Mem} {r : Out} (h : (x17 (LV CV) a0 ⟨[], m.next, m.next, 0⟩).bind (close m) = some r) (hc : [a0].all (clo FUEL) = true := by simp) : LV CV (.call 17) [a0] m [] = some r := R_callP (C := CV) (fn := ir17) rfl rfl rfl (Nat.le_of_ble_eq_true rfl) hc (x := x17 (LV CV) a0 ⟨[], m.next, m.next, 0⟩) (by kernel_rfl) h
/-- noonmark/keyword.ShowMonth -/
def x18 (O : Orc) (a0 : Value) (m : Mem) : Option Out :=
(aBin .lss a0 (.int .i64 (1))).bind fun v0 =>
br v0 (
some ⟨.ret, [(S [])], m, []⟩) (
(aBin .gtr a0 (.int .i64 (12))).bind fun v1 =>
br v1 (
some ⟨.ret, [(S [])], m, []⟩) (
retK (O (.call 32) [] m []) (fun v2 m3 =>
(aBin .sub a0 (.int .i64 (1))).bind fun v5 =>
(vIdx 1 v2 v5).bind fun v6 =>
(vLd 1 false v6 m3).bind fun v7 =>
(aCutStr v7 none (some (.int .i64 (3)))).bind fun v8 =>
(aBytes v8 m3).bind fun r9 =>
(vIdx 1 r9.1 (.int .i64 (0))).bind fun v10 =>
(vLd 1 false v10 r9.2).bind fun v11 =>
(aBin .andNot v11 (.int .u8 (32))).bind fun v12 =>
(vIdx 1 r9.1 (.int .i64 (0))).bind fun v13 =>
(aSt 1 v13 v12 r9.2).bind fun m14 =>
(vStr r9.1 m14).bind fun v15 =>
some ⟨.ret, [v15], m14, []⟩) (fun p4 m16 => some ⟨.panic p4, [], m16, []⟩)))
theorem R18 {a0 : Value} {m : Mem} {r : Out} (h : (x18 (LV CV) a0 ⟨[], m.next, m.next, 0⟩).bind (close m) = some r) (hc : [a0].all (clo FUEL) = true := by simp) : LV CV (.call 18) [a0] m [] = some r := R_callP (C := CV) (fn := ir18) rfl rfl rfl (Nat.le_of_ble_eq_true rfl) hc (x := x18 (LV CV) a0 ⟨[], m.next, m.next, 0⟩) (by kernel_rfl) h
/-- noonmark/noonmarkref08.ShowMonth -/
def x19 (O : Orc) (a0 : Value) (m : Mem) : Option Out :=
(aBin .lss a0 (.int .i64 (1))).bind fun v0 =>
br v0 (
some ⟨.ret, [(S [])], m, []⟩) (
(aBin .gtr a0 (.int .i64 (12))).bind fun v1 =>
br v1 (
some ⟨.ret, [(S [])], m, []⟩) (
retK (O (.call 33) [] m []) (fun v2 m3 =>
(aBin .sub a0 (.int .i64 (1))).bind fun v5 =>
(vIdx 1 v2 v5).bind fun v6 =>
(vLd 1 false v6 m3).bind fun v7 =>
(aByte v7 (.int .i64 (0))).bind fun v8 =>
(aBin .sub v8 (.int .u8 (32))).bind fun v9 =>
(vLit 1 1 [(.int .u8 (0))] [(0, v9)] m3).bind fun r10 =>
(vStr r10.1 r10.2).bind fun v11 =>
(aCutStr v7 (some (.int .i64 (1))) (some (.int .i64 (3)))).bind fun v12 =>
(aBin .add v11 v12).bind fun v13 =>
some ⟨.ret, [v13], r10.2, []⟩) (fun p4 m14 => some ⟨.panic p4, [], m14, []⟩)))
theorem R19 {a0 : Value} {m : Mem} {r : Out} (h : (x19 (LV CV) a0 ⟨[], m.next, m.next, 0⟩).bind (close m) = some r) (hc : [a0].all (clo FUEL) = true := by simp) : LV CV (.call 19) [a0] m [] = some r := R_callP (C := CV) (fn := ir19) rfl rfl rfl (Nat.le_of_ble_eq_true rfl) hc (x := x19 (LV CV) a0 ⟨[], m.next, m.next, 0⟩) (by kernel_rfl) h
/-- noonmark/keyword.From -/
def x20 (O : Orc) (a0 : Value) (m : Mem) : Option Out :=
retK (O (.call 34) [a0] m []) (fun v0 m1 =>
(aExtract 0 v0).bind fun v3 =>
(aExtract 1 v0).bind fun v4 =>
(aBin .neq v4 (.int .i64 (0))).bind fun v5 =>
br v5 (
some ⟨.ret, [.tuple [(.int .i64 (0)), (.int .i64 (8))].toArray], m1, []⟩) (
(aBin .gtr v3 (.int .i64 (9999))).bind fun v6 =>
br v6 (
some ⟨.ret, [.tuple [(.int .i64 (0)), (.int .i64 (8))].toArray], m1, []⟩) (
retK (O (.call 35) [v3] m1 []) (fun v7 m8 =>
(aUn .not v7).bind fun v10 =>
br v10 (
some ⟨.ret, [.tuple [(.int .i64 (0)), (.int .i64 (8))].toArray], m8, []⟩) (
some ⟨.ret, [.tuple [v3, (.int .i64 (0))].toArray], m8, []⟩)) (fun p9 m11 => some ⟨.panic p9, [], m11, []⟩)))) (fun p2 m12 => some ⟨.panic p2, [], m12, []⟩)
theorem R20 {a0 : Value} {m : Mem} {r : Out} (h : (x20 (LV CV) a0 ⟨[], m.next, m.next, 0⟩).bind (close m) = some r) (hc : [a0].all (clo FUEL) = true := by simp) : LV CV (.call 20) [a0] m [] = some r := R_callP (C := CV) (fn := ir20) rfl rfl rfl (Nat.le_of_ble_eq_true rfl) hc (x := x20 (LV CV) a0 ⟨[], m.next, m.next, 0⟩) (by kernel_rfl) h
/-- noonmark/noonmarkref08.From -/
def x21 (O : Orc) (a0 : Value) (m : Mem) : Option Out :=
retK (O (.call 36) [a0] m []) (fun v0 m1 =>
(aExtract 0 v0).bind fun v3 =>
(aExtract 1 v0).bind fun v4 =>
(aBin .neq v4 (.int .i64 (0))).bind fun v5 =>
br v5 (
some ⟨.ret, [.tuple [(.int .i64 (0)), (.int .i64 (8))].toArray], m1, []⟩) (
(aBin .lss v3 (.int .i64 (1))).bind fun v6 =>
br v6 (
some ⟨.ret, [.tuple [(.int .i64 (0)), (.int .i64 (8))].toArray], m1, []⟩) (
(aBin .gtr v3 (.int .i64 (9999))).bind fun v7 =>
br v7 (
some ⟨.ret, [.tuple [(.int .i64 (0)), (.int .i64 (8))].toArray], m1, []⟩) (
some ⟨.ret, [.tuple [v3, (.int .i64 (0))].toArray], m1, []⟩)))) (fun p2 m8 => some ⟨.panic p2, [], m8, []⟩)
theorem R21 {a0 : Value} {m : Mem} {r : Out} (h : (x21 (LV CV) a0 ⟨[], m.next, m.next, 0⟩).bind (close m) = some r) (hc : [a0].all (clo FUEL) = true := by simp) : LV CV (.call 21) [a0] m [] = some r := R_callP (C := CV) (fn := ir21) rfl rfl rfl (Nat.le_of_ble_eq_true rfl) hc (x := x21 (LV CV) a0 ⟨[], m.next, m.next, 0⟩) (by kernel_rfl) h
/-- noonmark/keyword.To -/
def x22 (O : Orc) (a0 a1 : Value) (m : Mem) : Option Out :=
(vLit 1 3 [(S [])] [(0, (S [111, 110, 108, 121])), (1, (S [109, 97, 120, 105, 109, 117, 109])), (2, (S [109, 105, 110, 105, 109, 117, 109]))] m).bind fun r0 =>
retK (O (.call 30) [a0, r0.1] r0.2 []) (fun v1 m2 =>
(aBin .eql v1 (.int .i64 (1))).bind fun v4 =>
br v4 (
some ⟨.ret, [.tuple [a1, (.int .i64 (0))].toArray], m2, []⟩) (
(aBin .eql v1 (.int .i64 (2))).bind fun v5 =>
br v5 (
some ⟨.ret, [.tuple [(.int .i64 (10000)), (.int .i64 (0))].toArray], m2, []⟩) (
retK (O (.call 20) [a0] m2 []) (fun v6 m7 =>
(aExtract 0 v6).bind fun v9 =>
(aExtract 1 v6).bind fun v10 =>
(aBin .eql v10 (.int .i64 (0))).bind fun v11 =>
br v11 (
(aBin .lss v9 a1).bind fun v12 =>
br v12 (
some ⟨.ret, [.tuple [(.int .i64 (0)), (.int .i64 (8))].toArray], m7, []⟩) (
some ⟨.ret, [.tuple [v9, v10].toArray], m7, []⟩)) (
some ⟨.ret, [.tuple [v9, v10].toArray], m7, []⟩)) (fun p8 m13 => some ⟨.panic p8, [], m13, []⟩)))) (fun p3 m14 => some ⟨.panic p3, [], m14, []⟩)
theorem R22 {a0 a1 : Value} {m : Mem} {r : Out} (h : (x22 (LV CV) a0 a1 ⟨[], m.next, m.next, 0⟩).bind (close m) = some r) (hc : [a0, a1].all (clo FUEL) = true := by simp) : LV CV (.call 22) [a0, a1] m [] = some r := R_callP (C := CV) (fn := ir22) rfl rfl rfl (Nat.le_of_ble_eq_true rfl) hc (x := x22 (LV CV) a0 a1 ⟨[], m.next, m.next, 0⟩) (by kernel_rfl) h
/-- noonmark/noonmarkref08.To -/
def x23 (O : Orc) (a0 a1 : Value) (m : Mem) : Option Out :=
(vLit 1 3 [(S [])] [(0, (S [111, 110, 108, 121])), (1, (S [109, 97, 120, 105, 109, 117, 109])), (2, (S [109, 105, 110, 105, 109, 117, 109]))] m).bind fun r0 =>
retK (O (.call 31) [a0, r0.1] r0.2 []) (fun v1 m2 =>
(aBin .eql v1 (.int .i64 (1))).bind fun v4 =>
br v4 (
some ⟨.ret, [.tuple [a1, (.int .i64 (0))].toArray], m2, []⟩) (
(aBin .eql v1 (.int .i64 (2))).bind fun v5 =>
br v5 (
some ⟨.ret, [.tuple [(.int .i64 (10000)), (.int .i64 (0))].toArray], m2, []⟩) (
retK (O (.call 21) [a0] m2 []) (fun v6 m7 =>
(aExtract 0 v6).bind fun v9 =>
(aExtract 1 v6).bind fun v10 =>
(aBin .neq v10 (.int .i64 (0))).bind fun v11 =>
br v11 (
some ⟨.ret, [.tuple [(.int .i64 (0)), (.int .i64 (8))].toArray], m7, []⟩) (
(aBin .lss v9 a1).bind fun v12 =>
br v12 (
some ⟨.ret, [.tuple [(.int .i64 (0)), (.int .i64 (8))].toArray], m7, []⟩) (
some ⟨.ret, [.tuple [v9, (.int .i64 (0))].toArray], m7, []⟩))) (fun p8 m13 => some ⟨.panic p8, [], m13, []⟩)))) (fun p3 m14 => some ⟨.panic p3, [], m14, []⟩)
theorem R23 {a0 a1 : Value} {m : Mem} {r : Out} (h : (x23 (LV CV) a0 a1 ⟨[], m.next, m.next, 0⟩).bind (close m) = some r) (hc : [a0, a1].all (clo FUEL) = true := by simp) : LV CV (.call 23) [a0, a1] m [] = some r := R_callP (C := CV) (fn := ir23) rfl rfl rfl (Nat.le_of_ble_eq_true rfl) hc (x := x23 (LV CV) a0 a1 ⟨[], m.next, m.next, 0⟩) (by kernel_rfl) h
/-- noonmark/keyword.ShowTo -/
def x24 (O : Orc) (a0 a1 : Value) (m : Mem) : Option Out :=
retK (O (.call 35) [a0] m []) (fun v0 m1 =>
(aUn .not v0).bind fun v3 =>
br v3 (
some ⟨.ret, [.tuple [(S []), (.int .i64 (8))].toArray], m1, []⟩) (
(aBin .eql a1 (.int .i64 (10000))).bind fun v4 =>
br v4 (
some ⟨.ret, [.tuple [(S [109, 97, 120]), (.int .i64 (0))].toArray], m1, []⟩) (
cutN (
(aBin .lss a1 a0).bind fun v10 =>
br v10 (
some ⟨.normal, [a0, a1, v10], m1, []⟩) (
retK (O (.call 35) [a1] m1 []) (fun v11 m12 =>
(aUn .not v11).bind fun v14 =>
some ⟨.normal, [a0, a1, v14], m12, []⟩) (fun p13 m15 => some ⟨.panic p13, [a0, a1, v10], m15, []⟩))) (fun w5 m6 =>
br (w5.getD 2 undef) (
some ⟨.ret, [.tuple [(S []), (.int .i64 (8))].toArray], m6, []⟩) (
(aBin .eql (w5.getD 1 undef) (w5.getD 0 undef)).bind fun v16 =>
br v16 (
some ⟨.ret, [.tuple [(S [111, 110, 108, 121]), (.int .i64 (0))].toArray], m6, []⟩) (
retK (O (.call 37) [(w5.getD 1 undef)] m6 []) (fun v17 m18 =>
some ⟨.ret, [.tuple [v17, (.int .i64 (0))].toArray], m18, []⟩) (fun p19 m20 => some ⟨.panic p19, [], m20, []⟩)))) (fun id8 w5 m6 =>
if id8 = 0 then
retK (O (.call 37) [(w5.getD 1 undef)] m6 []) (fun v21 m22 =>
some ⟨.ret, [.tuple [v21, (.int .i64 (0))].toArray], m22, []⟩) (fun p23 m24 => some ⟨.panic p23, [], m24, []⟩) else
none) (fun w5 m6 =>
some ⟨.ret, [.tuple [undef, undef].toArray], m6, []⟩) (fun p9 w5 m6 =>
some ⟨.panic p9, [], m6, []⟩)))) (fun p2 m25 => some ⟨.panic p2, [], m25, []⟩)
theorem R24 {a0 a1 : Value} {m : Mem} {r : Out} (h : (x24 (LV CV) a0 a1 ⟨[], m.next, m.next, 0⟩).bind (close m) = some r) (hc : [a0, a1].all (clo FUEL) = true := by simp) : LV CV (.call 24) [a0, a1] m [] = some r := R_callP (C := CV) (fn := ir24) rfl rfl rfl (Nat.le_of_ble_eq_true rfl) hc (x := x24 (LV CV) a0 a1 ⟨[], m.next, m.next, 0⟩) (by kernel_rfl) h
/-- noonmark/noonmarkref08.ShowTo -/
def x25 (O : Orc) (a0 a1 : Value) (m : Mem) : Option Out :=
(aBin .lss a0 (.int .i64 (1))).bind fun v0 =>
br v0 (
some ⟨.ret, [.tuple [(S []), (.int .i64 (8))].toArray], m, []⟩) (
(aBin .gtr a0 (.int .i64 (9999))).bind fun v1 =>
br v1 (
some ⟨.ret, [.tuple [(S []), (.int .i64 (8))].toArray], m, []⟩) (
(aBin .neq a1 (.int .i64 (10000))).bind fun v2 =>
br v2 (
(aBin .lss a1 a0).bind fun v3 =>
br v3 (
some ⟨.ret, [.tuple [(S []), (.int .i64 (8))].toArray], m, []⟩) (
(aBin .gtr a1 (.int .i64 (9999))).bind fun v4 =>
br v4 (
some ⟨.ret, [.tuple [(S []), (.int .i64 (8))].toArray], m, []⟩) (
(aBin .eql a1 a0).bind fun v5 =>
br v5 (
some ⟨.ret, [.tuple [(S [111, 110, 108, 121]), (.int .i64 (0))].toArray], m, []⟩) (
(aBin .eql a1 (.int .i64 (10000))).bind fun v6 =>
br v6 (
some ⟨.ret, [.tuple [(S [109, 97, 120]), (.int .i64 (0))].toArray], m, []⟩) (
retK (O (.call 38) [a1] m []) (fun v7 m8 =>
some ⟨.ret, [.tuple [v7, (.int .i64 (0))].toArray], m8, []⟩) (fun p9 m10 => some ⟨.panic p9, [], m10, []⟩)))))) (
(aBin .eql a1 a0).bind fun v11 =>
br v11 (
some ⟨.ret, [.tuple [(S [111, 110, 108, 121]), (.int .i64 (0))].toArray], m, []⟩) (
(aBin .eql a1 (.int .i64 (10000))).bind fun v12 =>
br v12 (
some ⟨.ret, [.tuple [(S [109, 97, 120]), (.int .i64 (0))].toArray], m, []⟩) (
retK (O (.call 38) [a1] m []) (fun v13 m14 =>
some ⟨.ret, [.tuple [v13, (.int .i64 (0))].toArray], m14, []⟩) (fun p15 m16 => some ⟨.panic p15, [], m16, []⟩))))))
theorem R25 {a0 a1 : Value} {m : Mem} {r : Out} (h : (x25 (LV CV) a0 a1 ⟨[], m.next, m.next, 0⟩).bind (close m) = some r) (hc : [a0, a1].all (clo FUEL) = true := by simp) : LV CV (.call 25) [a0, a1] m [] = some r := R_callP (C := CV) (fn := ir25) rfl rfl rfl (Nat.le_of_ble_eq_true rfl) hc (x := x25 (LV CV) a0 a1 ⟨[], m.next, m.next, 0⟩) (by kernel_rfl) h
def y2700 (O : Orc) (b0 b1 b2 b3 b4 : Value) (m : Mem) : Option Out :=
(aBin .lss b4 b3).bind fun v0 =>
br v0 (
(vIdx 1 b2 b4).bind fun v1 =>
(vLd 1 false v1 m).bind fun v2 =>
(aBin .or v2 (.int .u8 (32))).bind fun v3 =>
(aBin .leq (.int .u8 (97)) v3).bind fun v4 =>
br v4 (
(aBin .leq v3 (.int .u8 (122))).bind fun v5 =>
br v5 (
(aBin .lss v2 (.int .u8 (128))).bind fun v6 =>
(aUn .not v6).bind fun v7 =>
br v7 (
(aBin .leq (.int .u8 (48)) v2).bind fun v8 =>
br v8 (
(aBin .leq v2 (.int .u8 (57))).bind fun v9 =>
(aUn .not v9).bind fun v10 =>
br v10 (
retK (O (.call 40) [b0, v2] m []) (fun v11 m12 =>
(aUn .not v11).bind fun v14 =>
br v14 (
some ⟨.ret, [b0, (.bool false), b2, b3, b4], m12, []⟩) (
(aBin .add b4 (.int .i64 (1))).bind fun v15 =>
O (.loop 2700) [b0, b1, b2, b3, v15] m12 [])) (fun p13 m16 => some ⟨.panic p13, [b0, b1, b2, b3, b4], m16, []⟩)) (
(aBin .add b4 (.int .i64 (1))).bind fun v17 =>
O (.loop 2700) [b0, b1, b2, b3, v17] m [])) (
(aUn .not (.bool false)).bind fun v18 =>
br v18 (
retK (O (.call 40) [b0, v2] m []) (fun v19 m20 =>
(aUn .not v19).bind fun v22 =>
br v22 (
some ⟨.ret, [b0, (.bool false), b2, b3, b4], m20, []⟩) (
(aBin .add b4 (.int .i64 (1))).bind fun v23 =>
O (.loop 2700) [b0, b1, b2, b3, v23] m20 [])) (fun p21 m24 => some ⟨.panic p21, [b0, b1, b2, b3, b4], m24, []⟩)) (
(aBin .add b4 (.int .i64 (1))).bind fun v25 =>
O (.loop 2700) [b0, b1, b2, b3, v25] m []))) (
(aBin .add b4 (.int .i64 (1))).bind fun v26 =>
O (.loop 2700) [b0, b1, b2, b3, v26] m [])) (
(aUn .not (.bool false)).bind fun v27 =>
br v27 (
(aBin .leq (.int .u8 (48)) v2).bind fun v28 =>
br v28 (
(aBin .leq v2 (.int .u8 (57))).bind fun v29 =>
(aUn .not v29).bind fun v30 =>
br v30 (
retK (O (.call 40) [b0, v2] m []) (fun v31 m32 =>
(aUn .not v31).bind fun v34 =>
br v34 (
some ⟨.ret, [b0, (.bool false), b2, b3, b4], m32, []⟩) (
(aBin .add b4 (.int .i64 (1))).bind fun v35 =>
O (.loop 2700) [b0, b1, b2, b3, v35] m32 [])) (fun p33 m36 => some ⟨.panic p33, [b0, b1, b2, b3, b4], m36, []⟩)) (
(aBin .add b4 (.int .i64 (1))).bind fun v37 =>
O (.loop 2700) [b0, b1, b2, b3, v37] m [])) (
(aUn .not (.bool false)).bind fun v38 =>
br v38 (
retK (O (.call 40) [b0, v2] m []) (fun v39 m40 =>
(aUn .not v39).bind fun v42 =>
br v42 (
some ⟨.ret, [b0, (.bool false), b2, b3, b4], m40, []⟩) (
(aBin .add b4 (.int .i64 (1))).bind fun v43 =>
O (.loop 2700) [b0, b1, b2, b3, v43] m40 [])) (fun p41 m44 => some ⟨.panic p41, [b0, b1, b2, b3, b4], m44, []⟩)) (
(aBin .add b4 (.int .i64 (1))).bind fun v45 =>
O (.loop 2700) [b0, b1, b2, b3, v45] m []))) (
(aBin .add b4 (.int .i64 (1))).bind fun v46 =>
O (.loop 2700) [b0, b1, b2, b3, v46] m []))) (
(aUn .not (.bool false)).bind fun v47 =>
br v47 (
(aBin .leq (.int .u8 (48)) v2).bind fun v48 =>
br v48 (
(aBin .leq v2 (.int .u8 (57))).bind fun v49 =>
(aUn .not v49).bind fun v50 =>
br v50 (
retK (O (.call 40) [b0, v2] m []) (fun v51 m52 =>
(aUn .not v51).bind fun v54 =>
br v54 (
some ⟨.ret, [b0, (.bool false), b2, b3, b4], m52, []⟩) (
(aBin .add b4 (.int .i64 (1))).bind fun v55 =>
O (.loop 2700) [b0, b1, b2, b3, v55] m52 [])) (fun p53 m56 => some ⟨.panic p53, [b0, b1, b2, b3, b4], m56, []⟩)) (
(aBin .add b4 (.int .i64 (1))).bind fun v57 =>
O (.loop 2700) [b0, b1, b2, b3, v57] m [])) (
(aUn .not (.bool false)).bind fun v58 =>
br v58 (
retK (O (.call 40) [b0, v2] m []) (fun v59 m60 =>
(aUn .not v59).bind fun v62 =>
br v62 (
some ⟨.ret, [b0, (.bool false), b2, b3, b4], m60, []⟩) (
(aBin .add b4 (.int .i64 (1))).bind fun v63 =>
O (.loop 2700) [b0, b1, b2, b3, v63] m60 [])) (fun p61 m64 => some ⟨.panic p61, [b0, b1, b2, b3, b4], m64, []⟩)) (
(aBin .add b4 (.int .i64 (1))).bind fun v65 =>
O (.loop 2700) [b0, b1, b2, b3, v65] m []))) (
(aBin .add b4 (.int .i64 (1))).bind fun v66 =>
O (.loop 2700) [b0, b1, b2, b3, v66] m []))) (
some ⟨.exit 0, [b0, b1, b2, b3, b4], m, []⟩)
theorem Q2700 {b0 b1 b2 b3 b4 : Value} {m : Mem} {r : Out} (h : y2700 (LV CV) b0 b1 b2 b3 b4 m = some r) : LV CV (.loop 2700) [b0, b1, b2, b3, b4] m [] = some r := R_loopV (C := CV) (keep := [1, 6, 19, 20, 21]) (b := lb2700) rfl (x := y2700 (LV CV) b0 b1 b2 b3 b4 m) (by kernel_rfl) h
/-- noonmark/keyword.word -/
def x27 (O : Orc) (a0 a1 a2 : Value) (m : Mem) : Option Out :=
(aBin .eql a0 (S [])).bind fun v0 =>
br v0 (
some ⟨.ret, [(.bool false)], m, []⟩) (
(aByte a0 (.int .i64 (0))).bind fun v1 =>
retK (O (.call 40) [a2, v1] m []) (fun v2 m3 =>
br v2 (
some ⟨.ret, [(.bool false)], m3, []⟩) (
(aBytes a0 m3).bind fun r5 =>
(vLenL r5.1).bind fun v6 =>
lpN (O (.loop 2700) [a1, (.bool false), r5.1, v6, (.int .i64 (0))] r5.2 []) (fun id10 w7 m8 =>
if id10 = 0 then
some ⟨.ret, [(.bool true)], m8, []⟩ else
none) (fun w7 m8 =>
some ⟨.ret, [(w7.getD 1 undef)], m8, []⟩) (fun p11 w7 m8 =>
some ⟨.panic p11, [], m8, []⟩))) (fun p4 m12 => some ⟨.panic p4, [], m12, []⟩))
theorem R27 {a0 a1 a2 : Value} {m : Mem} {r : Out} (h : (x27 (LV CV) a0 a1 a2 ⟨[], m.next, m.next, 0⟩).bind (close m) = some r) (hc : [a0, a1, a2].all (clo FUEL) = true := by simp) : LV CV (.call 27) [a0, a1, a2] m [] = some r := R_callP (C := CV) (fn := ir27) rfl rfl rfl (Nat.le_of_ble_eq_true rfl) hc (x := x27 (LV CV) a0 a1 a2 ⟨[], m.next, m.next, 0⟩) (by kernel_rfl) h
/-- noonmark/noonmarkref08.letter -/
def x28 (O : Orc) (a0 : Value) (m : Mem) : Option Out :=
(aBin .geq a0 (.int .u8 (97))).bind fun v0 =>
br v0 (
(aBin .leq a0 (.int .u8 (122))).bind fun v1 =>
br v1 (
some ⟨.ret, [(.bool true)], m, []⟩) (
(aBin .geq a0 (.int .u8 (65))).bind fun v2 =>
br v2 (
(aBin .leq a0 (.int .u8 (90))).bind fun v3 =>
some ⟨.ret, [v3], m, []⟩) (
some ⟨.ret, [(.bool false)], m, []⟩))) (
(aBin .geq a0 (.int .u8 (65))).bind fun v4 =>
br v4 (
(aBin .leq a0 (.int .u8 (90))).bind fun v5 =>
some ⟨.ret, [v5], m, []⟩) (
some ⟨.ret, [(.bool false)], m, []⟩))
theorem R28 {a0 : Value} {m : Mem} {r : Out} (h : (x28 (LV CV) a0 ⟨[], m.next, m.next, 0⟩).bind (close m) = some r) (hc : [a0].all (clo FUEL) = true := by simp) : LV CV (.call 28) [a0] m [] = some r := R_callP (C := CV) (fn := ir28) rfl rfl rfl (Nat.le_of_ble_eq_true rfl) hc (x := x28 (LV CV) a0 ⟨[], m.next, m.next, 0⟩) (by kernel_rfl) h
/-- noonmark/noonmarkref08.digit -/
def x29 (O : Orc) (a0 : Value) (m : Mem) : Option Out :=
(aBin .geq a0 (.int .u8 (48))).bind fun v0 =>
br v0 (
(aBin .leq a0 (.int .u8 (57))).bind fun v1 =>
some ⟨.ret, [v1], m, []⟩) (
some ⟨.ret, [(.bool false)], m, []⟩)
theorem R29 {a0 : Value} {m : Mem} {r : Out} (h : (x29 (LV CV) a0 ⟨[], m.next, m.next, 0⟩).bind (close m) = some r) (hc : [a0].all (clo FUEL) = true := by simp) : LV CV (.call 29) [a0] m [] = some r := R_callP (C := CV) (fn := ir29) rfl rfl rfl (Nat.le_of_ble_eq_true rfl) hc (x := x29 (LV CV) a0 ⟨[], m.next, m.next, 0⟩) (by kernel_rfl) h
def y3000 (O : Orc) (b0 b1 b2 b3 b4 : Value) (m : Mem) : Option Out :=
(aBin .lss b4 b3).bind fun v0 =>
br v0 (
(vIdx 1 b2 b4).bind fun v1 =>
(vLd 1 false v1 m).bind fun v2 =>
(aBin .eql v2 b0).bind fun v3 =>
br v3 (
(aBin .add b4 (.int .i64 (1))).bind fun v4 =>
some ⟨.ret, [b0, v4, b2, b3, b4], m, []⟩) (
retK (O (.call 42) [v2, b0] m []) (fun v5 m6 =>
(aUn .not v5).bind fun v8 =>
br v8 (
(aBin .add b4 (.int .i64 (1))).bind fun v9 =>
O (.loop 3000) [b0, b1, b2, b3, v9] m6 []) (
(aBin .neq b1 (.int .i64 (0))).bind fun v10 =>
br v10 (
(aBin .add b4 (.int .i64 (1))).bind fun v11 =>
O (.loop 3000) [b0, (.int .i64 (-1)), b2, b3, v11] m6 []) (
(aBin .add b4 (.int .i64 (1))).bind fun v12 =>
(aBin .add b4 (.int .i64 (1))).bind fun v13 =>
O (.loop 3000) [b0, v12, b2, b3, v13] m6 []))) (fun p7 m14 => some ⟨.panic p7, [b0, b1, b2, b3, b4], m14, []⟩))) (
some ⟨.exit 0, [b0, b1, b2, b3, b4], m, []⟩)
theorem Q3000 {b0 b1 b2 b3 b4 : Value} {m : Mem} {r : Out} (h : y3000 (LV CV) b0 b1 b2 b3 b4 m = some r) : LV CV (.loop 3000) [b0, b1, b2, b3, b4] m [] = some r := R_loopV (C := CV) (keep := [0, 4, 11, 12, 13]) (b := lb3000) rfl (x := y3000 (LV CV) b0 b1 b2 b3 b4 m) (by kernel_rfl) h
/-- noonmark/keyword.one -/
def x30 (O : Orc) (a0 a1 : Value) (m : Mem) : Option Out :=
retK (O (.call 41) [a0] m []) (fun v0 m1 =>
(aBin .eql v0 (S [])).bind fun v3 =>
br v3 (
some ⟨.ret, [(.int .i64 (0))], m1, []⟩) (
(vLenL a1).bind fun v4 =>
lpN (O (.loop 3000) [v0, (.int .i64 (0)), a1, v4, (.int .i64 (0))] m1 []) (fun id8 w5 m6 =>
if id8 = 0 then
(aMax true [(w5.getD 1 undef), (.int .i64 (0))]).bind fun v10 =>
some ⟨.ret, [v10], m6, []⟩ else
none) (fun w5 m6 =>
some ⟨.ret, [(w5.getD 1 undef)], m6, []⟩) (fun p9 w5 m6 =>
some ⟨.panic p9, [], m6, []⟩))) (fun p2 m11 => some ⟨.panic p2, [], m11, []⟩)
theorem R30 {a0 a1 : Value} {m : Mem} {r : Out} (h : (x30 (LV CV) a0 a1 ⟨[], m.next, m.next, 0⟩).bind (close m) = some r) (hc : [a0, a1].all (clo FUEL) = true := by simp) : LV CV (.call 30) [a0, a1] m [] = some r := R_callP (C := CV) (fn := ir30) rfl rfl rfl (Nat.le_of_ble_eq_true rfl) hc (x := x30 (LV CV) a0 a1 ⟨[], m.next, m.next, 0⟩) (by kernel_rfl) h
def y3100 (O : Orc) (b0 b1 b2 b3 b4 b5 : Value) (m : Mem) : Option Out :=
(vLenL b1).bind fun v0 =>
(aBin .lss b5 v0).bind fun v1 =>
br v1 (
(aLenS b0).bind fun v2 =>
(aBin .eql v2 (.int .i64 (0))).bind fun v3 =>
br v3 (
(aBin .add b5 (.int .i64 (1))).bind fun v4 =>
O (.loop 3100) [b0, b1, b2, b3, b4, v4] m []) (
(aLenS b0).bind fun v5 =>
(vIdx 1 b1 b5).bind fun v6 =>
(vLd 1 false v6 m).bind fun v7 =>
(aLenS v7).bind fun v8 =>
(aBin .gtr v5 v8).bind fun v9 =>
br v9 (
(aBin .add b5 (.int .i64 (1))).bind fun v10 =>
O (.loop 3100) [b0, b1, b2, b3, b4, v10] m []) (
(vIdx 1 b1 b5).bind fun v11 =>
(vLd 1 false v11 m).bind fun v12 =>
(aLenS b0).bind fun v13 =>
(aCutStr v12 none (some v13)).bind fun v14 =>
(aBin .neq v14 b0).bind fun v15 =>
br v15 (
(aBin .add b5 (.int .i64 (1))).bind fun v16 =>
O (.loop 3100) [b0, b1, b2, b3, b4, v16] m []) (
(aLenS b0).bind fun v17 =>
(vIdx 1 b1 b5).bind fun v18 =>
(vLd 1 false v18 m).bind fun v19 =>
(aLenS v19).bind fun v20 =>
(aBin .eql v17 v20).bind fun v21 =>
br v21 (
(aBin .add b5 (.int .i64 (1))).bind fun v22 =>
some ⟨.ret, [b0, b1, v22, b3, b4, b5], m, []⟩) (
(aBin .add b5 (.int .i64 (1))).bind fun v23 =>
(aBin .add b4 (.int .i64 (1))).bind fun v24 =>
(aBin .add b5 (.int .i64 (1))).bind fun v25 =>
O (.loop 3100) [b0, b1, b2, v23, v24, v25] m []))))) (
some ⟨.exit 0, [b0, b1, b2, b3, b4, b5], m, []⟩)
theorem Q3100 {b0 b1 b2 b3 b4 b5 : Value} {m : Mem} {r : Out} (h : y3100 (LV CV) b0 b1 b2 b3 b4 b5 m = some r) : LV CV (.loop 3100) [b0, b1, b2, b3, b4, b5] m [] = some r := R_loopV (C := CV) (keep := [0, 1, 4, 5, 6, 7]) (b := lb3100) rfl (x := y3100 (LV CV) b0 b1 b2 b3 b4 b5 m) (by kernel_rfl) h
/-- noonmark/noonmarkref08.find -/
def x31 (O : Orc) (a0 a1 : Value) (m : Mem) : Option Out :=
retK (O (.call 43) [a0] m []) (fun v0 m1 =>
lpN (O (.loop 3100) [v0, a1, (.int .i64 (0)), (.int .i64 (0)), (.int .i64 (0)), (.int .i64 (0))] m1 []) (fun id6 w3 m4 =>
if id6 = 0 then
(aBin .neq (w3.getD 4 undef) (.int .i64 (1))).bind fun v8 =>
br v8 (
some ⟨.ret, [(.int .i64 (0))], m4, []⟩) (
some ⟨.ret, [(w3.getD 3 undef)], m4, []⟩) else
none) (fun w3 m4 =>
some ⟨.ret, [(w3.getD 2 undef)], m4, []⟩) (fun p7 w3 m4 =>
some ⟨.panic p7, [], m4, []⟩)) (fun p2 m9 => some ⟨.panic p2, [], m9, []⟩)
theorem R31 {a0 a1 : Value} {m : Mem} {r : Out} (h : (x31 (LV CV) a0 a1 ⟨[], m.next, m.next, 0⟩).bind (close m) = some r) (hc : [a0, a1].all (clo FUEL) = true := by simp) : LV CV (.call 31) [a0, a1] m [] = some r := R_callP (C := CV) (fn := ir31) rfl rfl rfl (Nat.le_of_ble_eq_true rfl) hc (x := x31 (LV CV) a0 a1 ⟨[], m.next, m.next, 0⟩) (by kernel_rfl) h
/-- noonmark/keyword.months -/
def x32 (O : Orc) (m : Mem) : Option Out :=
retK (O (.call 44) [(S [106, 97, 110, 117, 97, 114, 121, 32, 102, 101, 98, 114, 117, 97, 114, 121, 32, 109, 97, 114, 99, 104, 32, 97, 112, 114, 105, 108, 32, 109, 97, 121, 32, 106, 117, 110, 101, 32, 106, 117, 108, 121, 32, 97, 117, 103, 117, 115, 116, 32, 115, 101, 112, 116, 101, 109, 98, 101, 114, 32, 111, 99, 116, 111, 98, 101, 114, 32, 110, 111, 118, 101, 109, 98, 101, 114, 32, 100, 101, 99, 101, 109, 98, 101, 114])] m []) (fun v0 m1 =>
some ⟨.ret, [v0], m1, []⟩) (fun p2 m3 => some ⟨.panic p2, [], m3, []⟩)
theorem R32 {m : Mem} {r : Out} (h : (x32 (LV CV)  ⟨[], m.next, m.next, 0⟩).bind (close m) = some r) (hc : [].all (clo FUEL) = true := by simp) : LV CV (.call 32) [] m [] = some r := R_callP (C := CV) (fn := ir32) rfl rfl rfl (Nat.le_of_ble_eq_true rfl) hc (x := x32 (LV CV)  ⟨[], m.next, m.next, 0⟩) (by kernel_rfl) h
/-- noonmark/noonmarkref08.months -/
def x33 (O : Orc) (m : Mem) : Option Out :=
(vLit 1 12 [(S [])] [(0, (S [106, 97, 110, 117, 97, 114, 121])), (1, (S [102, 101, 98, 114, 117, 97, 114, 121])), (2, (S [109, 97, 114, 99, 104])), (3, (S [97, 112, 114, 105, 108])), (4, (S [109, 97, 121])), (5, (S [106, 117, 110, 101])), (6, (S [106, 117, 108, 121])), (7, (S [97, 117, 103, 117, 115, 116])), (8, (S [115, 101, 112, 116, 101, 109, 98, 101, 114])), (9, (S [111, 99, 116, 111, 98, 101, 114])), (10, (S [110, 111, 118, 101, 109, 98, 101, 114])), (11, (S [100, 101, 99, 101, 109, 98, 101, 114]))] m).bind fun r0 =>
some ⟨.ret, [r0.1], r0.2, []⟩
theorem R33 {m : Mem} {r : Out} (h : (x33 (LV CV)  ⟨[], m.next, m.next, 0⟩).bind (close m) = some r) (hc : [].all (clo FUEL) = true := by simp) : LV CV (.call 33) [] m [] = some r := R_callP (C := CV) (fn := ir33) rfl rfl rfl (Nat.le_of_ble_eq_true rfl) hc (x := x33 (LV CV)  ⟨[], m.next, m.next, 0⟩) (by kernel_rfl) h
def y3400 (O : Orc) (b0 b1 b2 b3 b4 b5 b6 b7 b8 : Value) (m : Mem) : Option Out :=
(aBin .lss b8 b7).bind fun v0 =>
br v0 (
(aByte b2 b8).bind fun v1 =>
(aBin .sub v1 (.int .u8 (48))).bind fun v2 =>
(aInt .u64 v2).bind fun v3 =>
(aBin .gtr v3 (.int .u64 (9))).bind fun v4 =>
br v4 (
some ⟨.ret, [(.int .i64 (0)), (.int .i64 (3)), b2, b3, b4, b5, b6, b7, b8], m, []⟩) (
br b6 (
(aUn .not (.bool true)).bind fun v5 =>
br v5 (
(aBin .mul b5 (.int .u64 (10))).bind fun v6 =>
(aBin .add v6 v3).bind fun v7 =>
(aBin .add b8 (.int .i64 (1))).bind fun v8 =>
O (.loop 3400) [b0, b1, b2, b3, b4, v7, (.bool true), b7, v8] m []) (
(aBin .add b8 (.int .i64 (1))).bind fun v9 =>
O (.loop 3400) [b0, b1, b2, b3, b4, b5, (.bool true), b7, v9] m [])) (
(aBin .sub b4 v3).bind fun v10 =>
(aBin .quo v10 (.int .u64 (10))).bind fun v11 =>
(aBin .gtr b5 v11).bind fun v12 =>
(aUn .not v12).bind fun v13 =>
br v13 (
(aBin .mul b5 (.int .u64 (10))).bind fun v14 =>
(aBin .add v14 v3).bind fun v15 =>
(aBin .add b8 (.int .i64 (1))).bind fun v16 =>
O (.loop 3400) [b0, b1, b2, b3, b4, v15, v12, b7, v16] m []) (
(aBin .add b8 (.int .i64 (1))).bind fun v17 =>
O (.loop 3400) [b0, b1, b2, b3, b4, b5, v12, b7, v17] m [])))) (
some ⟨.exit 0, [b0, b1, b2, b3, b4, b5, b6, b7, b8], m, []⟩)
theorem Q3400 {b0 b1 b2 b3 b4 b5 b6 b7 b8 : Value} {m : Mem} {r : Out} (h : y3400 (LV CV) b0 b1 b2 b3 b4 b5 b6 b7 b8 m = some r) : LV CV (.loop 3400) [b0, b1, b2, b3, b4, b5, b6, b7, b8] m [] = some r := R_loopV (C := CV) (keep := [2, 3, 4, 5, 6, 7, 8, 31, 32]) (b := lb3400) rfl (x := y3400 (LV CV) b0 b1 b2 b3 b4 b5 b6 b7 b8 m) (by kernel_rfl) h
/-- noonmark/escape.ParseInt -/
def x34 (O : Orc) (a0 : Value) (m : Mem) : Option Out :=
retK (O (.call 45) [a0, (S [45])] m []) (fun v0 m1 =>
(aExtract 0 v0).bind fun v3 =>
(aExtract 1 v0).bind fun v4 =>
(aBin .eql v3 (S [])).bind fun v5 =>
br v5 (
some ⟨.ret, [.tuple [(.int .i64 (0)), (.int .i64 (3))].toArray], m1, []⟩) (
(aByte v3 (.int .i64 (0))).bind fun v6 =>
(aBin .eql v6 (.int .u8 (48))).bind fun v7 =>
br v7 (
(aBin .neq a0 (S [48])).bind fun v8 =>
br v8 (
some ⟨.ret, [.tuple [(.int .i64 (0)), (.int .i64 (3))].toArray], m1, []⟩) (
cutN (
br v4 (
(aBin .add (.int .u64 (9223372036854775807)) (.int .u64 (1))).bind fun v14 =>
some ⟨.normal, [v3, v4, v14], m1, []⟩) (
some ⟨.normal, [v3, v4, (.int .u64 (9223372036854775807))], m1, []⟩)) (fun w9 m10 =>
(aLenS (w9.getD 0 undef)).bind fun v15 =>
lpN (O (.loop 3400) [undef, undef, (w9.getD 0 undef), (w9.getD 1 undef), (w9.getD 2 undef), (.int .u64 (0)), (.bool false), v15, (.int .i64 (0))] m10 []) (fun id19 w16 m17 =>
if id19 = 0 then
br (w16.getD 6 undef) (
some ⟨.ret, [.tuple [(.int .i64 (0)), (.int .i64 (2))].toArray], m17, []⟩) (
br (w16.getD 3 undef) (
(aUn .neg (w16.getD 5 undef)).bind fun v21 =>
(aInt .i64 v21).bind fun v22 =>
some ⟨.ret, [.tuple [v22, (.int .i64 (0))].toArray], m17, []⟩) (
(aInt .i64 (w16.getD 5 undef)).bind fun v23 =>
some ⟨.ret, [.tuple [v23, (.int .i64 (0))].toArray], m17, []⟩)) else
none) (fun w16 m17 =>
some ⟨.ret, [.tuple [(w16.getD 0 undef), (w16.getD 1 undef)].toArray], m17, []⟩) (fun p20 w16 m17 =>
some ⟨.panic p20, [], m17, []⟩)) (fun id12 w9 m10 =>
none) (fun w9 m10 =>
some ⟨.ret, [.tuple [undef, undef].toArray], m10, []⟩) (fun p13 w9 m10 =>
some ⟨.panic p13, [], m10, []⟩))) (
cutN (
br v4 (
(aBin .add (.int .u64 (9223372036854775807)) (.int .u64 (1))).bind fun v29 =>
some ⟨.normal, [v3, v4, v29], m1, []⟩) (
some ⟨.normal, [v3, v4, (.int .u64 (9223372036854775807))], m1, []⟩)) (fun w24 m25 =>
(aLenS (w24.getD 0 undef)).bind fun v30 =>
lpN (O (.loop 3400) [undef, undef, (w24.getD 0 undef), (w24.getD 1 undef), (w24.getD 2 undef), (.int .u64 (0)), (.bool false), v30, (.int .i64 (0))] m25 []) (fun id34 w31 m32 =>
if id34 = 0 then
br (w31.getD 6 undef) (
some ⟨.ret, [.tuple [(.int .i64 (0)), (.int .i64 (2))].toArray], m32, []⟩) (
br (w31.getD 3 undef) (
(aUn .neg (w31.getD 5 undef)).bind fun v36 =>
(aInt .i64 v36).bind fun v37 =>
some ⟨.ret, [.tuple [v37, (.int .i64 (0))].toArray], m32, []⟩) (
(aInt .i64 (w31.getD 5 undef)).bind fun v38 =>
some ⟨.ret, [.tuple [v38, (.int .i64 (0))].toArray], m32, []⟩)) else
none) (fun w31 m32 =>
some ⟨.ret, [.tuple [(w31.getD 0 undef), (w31.getD 1 undef)].toArray], m32, []⟩) (fun p35 w31 m32 =>
some ⟨.panic p35, [], m32, []⟩)) (fun id27 w24 m25 =>
none) (fun w24 m25 =>
some ⟨.ret, [.tuple [undef, undef].toArray], m25, []⟩) (fun p28 w24 m25 =>
some ⟨.panic p28, [], m25, []⟩)))) (fun p2 m39 => some ⟨.panic p2, [], m39, []⟩)
theorem R34 {a0 : Value} {m : Mem} {r : Out} (h : (x34 (LV CV) a0 ⟨[], m.next, m.next, 0⟩).bind (close m) = some r) (hc : [a0].all (clo FUEL) = true := by simp) : LV CV (.call 34) [a0] m [] = some r := R_callP (C := CV) (fn := ir34) rfl rfl rfl (Nat.le_of_ble_eq_true rfl) hc (x := x34 (LV CV) a0 ⟨[], m.next, m.next, 0⟩) (by kernel_rfl) h
/-- noonmark/keyword.year -/
def x35 (O : Orc) (a0 : Value) (m : Mem) : Option Out :=
(aBin .geq a0 (.int .i64 (1))).bind fun v0 =>
br v0 (
(aBin .leq a0 (.int .i64 (9999))).bind fun v1 =>
some ⟨.ret, [v1], m, []⟩) (
some ⟨.ret, [(.bool false)], m, []⟩)
theorem R35 {a0 : Value} {m : Mem} {r : Out} (h : (x35 (LV CV) a0 ⟨[], m.next, m.next, 0⟩).bind (close m) = some r) (hc : [a0].all (clo FUEL) = true := by simp) : LV CV (.call 35) [a0] m [] = some r := R_callP (C := CV) (fn := ir35) rfl rfl rfl (Nat.le_of_ble_eq_true rfl) hc (x := x35 (LV CV) a0 ⟨[], m.next, m.next, 0⟩) (by kernel_rfl) h
def y3600 (O : Orc) (b0 b1 b2 b3 b4 : Value) (m : Mem) : Option Out :=
(aLenS b2).bind fun v0 =>
(aBin .lss b4 v0).bind fun v1 =>
br v1 (
(aByte b2 b4).bind fun v2 =>
(aBin .lss v2 (.int .u8 (48))).bind fun v3 =>
br v3 (
some ⟨.ret, [(.int .i64 (0)), (.int .i64 (3)), b2, b3, b4], m, []⟩) (
(aByte b2 b4).bind fun v4 =>
(aBin .gtr v4 (.int .u8 (57))).bind fun v5 =>
br v5 (
some ⟨.ret, [(.int .i64 (0)), (.int .i64 (3)), b2, b3, b4], m, []⟩) (
(aBin .add b4 (.int .i64 (1))).bind fun v6 =>
O (.loop 3600) [b0, b1, b2, b3, v6] m []))) (
some ⟨.exit 0, [b0, b1, b2, b3, b4], m, []⟩)
theorem Q3600 {b0 b1 b2 b3 b4 : Value} {m : Mem} {r : Out} (h : y3600 (LV CV) b0 b1 b2 b3 b4 m = some r) : LV CV (.loop 3600) [b0, b1, b2, b3, b4] m [] = some r := R_loopV (C := CV) (keep := [2, 3, 4, 5, 6]) (b := lb3600) rfl (x := y3600 (LV CV) b0 b1 b2 b3 b4 m) (by kernel_rfl) h
def y3601 (O : Orc) (b0 b1 b2 b3 b4 b5 : Value) (m : Mem) : Option Out :=
(aLenS b2).bind fun v0 =>
(aBin .lss b5 v0).bind fun v1 =>
br v1 (
(aByte b2 b5).bind fun v2 =>
(aBin .sub v2 (.int .u8 (48))).bind fun v3 =>
(aInt .i64 v3).bind fun v4 =>
(aBin .add (.int .i64 (-9223372036854775808)) v4).bind fun v5 =>
(aBin .quo v5 (.int .i64 (10))).bind fun v6 =>
(aBin .lss b4 v6).bind fun v7 =>
br v7 (
some ⟨.ret, [(.int .i64 (0)), (.int .i64 (2)), b2, b3, b4, b5], m, []⟩) (
(aBin .mul b4 (.int .i64 (10))).bind fun v8 =>
(aBin .sub v8 v4).bind fun v9 =>
(aBin .add b5 (.int .i64 (1))).bind fun v10 =>
O (.loop 3601) [b0, b1, b2, b3, v9, v10] m [])) (
some ⟨.exit 2, [b0, b1, b2, b3, b4, b5], m, []⟩)
theorem Q3601 {b0 b1 b2 b3 b4 b5 : Value} {m : Mem} {r : Out} (h : y3601 (LV CV) b0 b1 b2 b3 b4 b5 m = some r) : LV CV (.loop 3601) [b0, b1, b2, b3, b4, b5] m [] = some r := R_loopV (C := CV) (keep := [2, 3, 4, 5, 7, 8]) (b := lb3601) rfl (x := y3601 (LV CV) b0 b1 b2 b3 b4 b5 m) (by kernel_rfl) h
/-- noonmark/noonmarkref02.ParseInt -/
def x36 (O : Orc) (a0 : Value) (m : Mem) : Option Out :=
(aLenS a0).bind fun v0 =>
(aBin .gtr v0 (.int .i64 (0))).bind fun v1 =>
br v1 (
(aByte a0 (.int .i64 (0))).bind fun v2 =>
(aBin .eql v2 (.int .u8 (45))).bind fun v3 =>
cutN (
br v3 (
(aCutStr a0 (some (.int .i64 (1))) none).bind fun v9 =>
some ⟨.normal, [v9, v3], m, []⟩) (
some ⟨.normal, [a0, v3], m, []⟩)) (fun w4 m5 =>
(aLenS (w4.getD 0 undef)).bind fun v10 =>
(aBin .eql v10 (.int .i64 (0))).bind fun v11 =>
br v11 (
some ⟨.ret, [.tuple [(.int .i64 (0)), (.int .i64 (3))].toArray], m5, []⟩) (
(aByte (w4.getD 0 undef) (.int .i64 (0))).bind fun v12 =>
(aBin .eql v12 (.int .u8 (48))).bind fun v13 =>
br v13 (
(aLenS (w4.getD 0 undef)).bind fun v14 =>
(aBin .gtr v14 (.int .i64 (1))).bind fun v15 =>
br v15 (
some ⟨.ret, [.tuple [(.int .i64 (0)), (.int .i64 (3))].toArray], m5, []⟩) (
br (w4.getD 1 undef) (
some ⟨.ret, [.tuple [(.int .i64 (0)), (.int .i64 (3))].toArray], m5, []⟩) (
lpN (O (.loop 3600) [undef, undef, (w4.getD 0 undef), (w4.getD 1 undef), (.int .i64 (0))] m5 []) (fun id19 w16 m17 =>
if id19 = 0 then
(aLenS (w16.getD 2 undef)).bind fun v21 =>
(aBin .gtr v21 (.int .i64 (19))).bind fun v22 =>
br v22 (
some ⟨.ret, [.tuple [(.int .i64 (0)), (.int .i64 (2))].toArray], m17, []⟩) (
lpN (O (.loop 3601) [(w16.getD 0 undef), (w16.getD 1 undef), (w16.getD 2 undef), (w16.getD 3 undef), (.int .i64 (0)), (.int .i64 (0))] m17 []) (fun id26 w23 m24 =>
if id26 = 2 then
br (w23.getD 3 undef) (
some ⟨.ret, [.tuple [(w23.getD 4 undef), (.int .i64 (0))].toArray], m24, []⟩) (
(aBin .lss (w23.getD 4 undef) (.int .i64 (-9223372036854775807))).bind fun v28 =>
br v28 (
some ⟨.ret, [.tuple [(.int .i64 (0)), (.int .i64 (2))].toArray], m24, []⟩) (
(aUn .neg (w23.getD 4 undef)).bind fun v29 =>
some ⟨.ret, [.tuple [v29, (.int .i64 (0))].toArray], m24, []⟩)) else
none) (fun w23 m24 =>
some ⟨.ret, [.tuple [(w23.getD 0 undef), (w23.getD 1 undef)].toArray], m24, []⟩) (fun p27 w23 m24 =>
some ⟨.panic p27, [], m24, []⟩)) else
none) (fun w16 m17 =>
some ⟨.ret, [.tuple [(w16.getD 0 undef), (w16.getD 1 undef)].toArray], m17, []⟩) (fun p20 w16 m17 =>
some ⟨.panic p20, [], m17, []⟩)))) (
lpN (O (.loop 3600) [undef, undef, (w4.getD 0 undef), (w4.getD 1 undef), (.int .i64 (0))] m5 []) (fun id33 w30 m31 =>
if id33 = 0 then
(aLenS (w30.getD 2 undef)).bind fun v35 =>
(aBin .gtr v35 (.int .i64 (19))).bind fun v36 =>
br v36 (
some ⟨.ret, [.tuple [(.int .i64 (0)), (.int .i64 (2))].toArray], m31, []⟩) (
lpN (O (.loop 3601) [(w30.getD 0 undef), (w30.getD 1 undef), (w30.getD 2 undef), (w30.getD 3 undef), (.int .i64 (0)), (.int .i64 (0))] m31 []) (fun id40 w37 m38 =>
if id40 = 2 then
br (w37.getD 3 undef) (
some ⟨.ret, [.tuple [(w37.getD 4 undef), (.int .i64 (0))].toArray], m38, []⟩) (
(aBin .lss (w37.getD 4 undef) (.int .i64 (-9223372036854775807))).bind fun v42 =>
br v42 (
some ⟨.ret, [.tuple [(.int .i64 (0)), (.int .i64 (2))].toArray], m38, []⟩) (
(aUn .neg (w37.getD 4 undef)).bind fun v43 =>
some ⟨.ret, [.tuple [v43, (.int .i64 (0))].toArray], m38, []⟩)) else
none) (fun w37 m38 =>
some ⟨.ret, [.tuple [(w37.getD 0 undef), (w37.getD 1 undef)].toArray], m38, []⟩) (fun p41 w37 m38 =>
some ⟨.panic p41, [], m38, []⟩)) else
none) (fun w30 m31 =>
some ⟨.ret, [.tuple [(w30.getD 0 undef), (w30.getD 1 undef)].toArray], m31, []⟩) (fun p34 w30 m31 =>
some ⟨.panic p34, [], m31, []⟩)))) (fun id7 w4 m5 =>
none) (fun w4 m5 =>
some ⟨.ret, [.tuple [undef, undef].toArray], m5, []⟩) (fun p8 w4 m5 =>
some ⟨.panic p8, [], m5, []⟩)) (
cutN (
some ⟨.normal, [a0, (.bool false)], m, []⟩) (fun w44 m45 =>
(aLenS (w44.getD 0 undef)).bind fun v49 =>
(aBin .eql v49 (.int .i64 (0))).bind fun v50 =>
br v50 (
some ⟨.ret, [.tuple [(.int .i64 (0)), (.int .i64 (3))].toArray], m45, []⟩) (
(aByte (w44.getD 0 undef) (.int .i64 (0))).bind fun v51 =>
(aBin .eql v51 (.int .u8 (48))).bind fun v52 =>
br v52 (
(aLenS (w44.getD 0 undef)).bind fun v53 =>
(aBin .gtr v53 (.int .i64 (1))).bind fun v54 =>
br v54 (
some ⟨.ret, [.tuple [(.int .i64 (0)), (.int .i64 (3))].toArray], m45, []⟩) (
br (w44.getD 1 undef) (
some ⟨.ret, [.tuple [(.int .i64 (0)), (.int .i64 (3))].toArray], m45, []⟩) (
lpN (O (.loop 3600) [undef, undef, (w44.getD 0 undef), (w44.getD 1 undef), (.int .i64 (0))] m45 []) (fun id58 w55 m56 =>
if id58 = 0 then
(aLenS (w55.getD 2 undef)).bind fun v60 =>
(aBin .gtr v60 (.int .i64 (19))).bind fun v61 =>
br v61 (
some ⟨.ret, [.tuple [(.int .i64 (0)), (.int .i64 (2))].toArray], m56, []⟩) (
lpN (O (.loop 3601) [(w55.getD 0 undef), (w55.getD 1 undef), (w55.getD 2 undef), (w55.getD 3 undef), (.int .i64 (0)), (.int .i64 (0))] m56 []) (fun id65 w62 m63 =>
if id65 = 2 then
br (w62.getD 3 undef) (
some ⟨.ret, [.tuple [(w62.getD 4 undef), (.int .i64 (0))].toArray], m63, []⟩) (
(aBin .lss (w62.getD 4 undef) (.int .i64 (-9223372036854775807))).bind fun v67 =>
br v67 (
some ⟨.ret, [.tuple [(.int .i64 (0)), (.int .i64 (2))].toArray], m63, []⟩) (
(aUn .neg (w62.getD 4 undef)).bind fun v68 =>
some ⟨.ret, [.tuple [v68, (.int .i64 (0))].toArray], m63, []⟩)) else
none) (fun w62 m63 =>
some ⟨.ret, [.tuple [(w62.getD 0 undef), (w62.getD 1 undef)].toArray], m63, []⟩) (fun p66 w62 m63 =>
some ⟨.panic p66, [], m63, []⟩)) else
none) (fun w55 m56 =>
some ⟨.ret, [.tuple [(w55.getD 0 undef), (w55.getD 1 undef)].toArray], m56, []⟩) (fun p59 w55 m56 =>
some ⟨.panic p59, [], m56, []⟩)))) (
lpN (O (.loop 3600) [undef, undef, (w44.getD 0 undef), (w44.getD 1 undef), (.int .i64 (0))] m45 []) (fun id72 w69 m70 =>
if id72 = 0 then
(aLenS (w69.getD 2 undef)).bind fun v74 =>
(aBin .gtr v74 (.int .i64 (19))).bind fun v75 =>
br v75 (
some ⟨.ret, [.tuple [(.int .i64 (0)), (.int .i64 (2))].toArray], m70, []⟩) (
lpN (O (.loop 3601) [(w69.getD 0 undef), (w69.getD 1 undef), (w69.getD 2 undef), (w69.getD 3 undef), (.int .i64 (0)), (.int .i64 (0))] m70 []) (fun id79 w76 m77 =>
if id79 = 2 then
br (w76.getD 3 undef) (
some ⟨.ret, [.tuple [(w76.getD 4 undef), (.int .i64 (0))].toArray], m77, []⟩) (
(aBin .lss (w76.getD 4 undef) (.int .i64 (-9223372036854775807))).bind fun v81 =>
br v81 (
some ⟨.ret, [.tuple [(.int .i64 (0)), (.int .i64 (2))].toArray], m77, []⟩) (
(aUn .neg (w76.getD 4 undef)).bind fun v82 =>
some ⟨.ret, [.tuple [v82, (.int .i64 (0))].toArray], m77, []⟩)) else
none) (fun w76 m77 =>
some ⟨.ret, [.tuple [(w76.getD 0 undef), (w76.getD 1 undef)].toArray], m77, []⟩) (fun p80 w76 m77 =>
some ⟨.panic p80, [], m77, []⟩)) else
none) (fun w69 m70 =>
some ⟨.ret, [.tuple [(w69.getD 0 undef), (w69.getD 1 undef)].toArray], m70, []⟩) (fun p73 w69 m70 =>
some ⟨.panic p73, [], m70, []⟩)))) (fun id47 w44 m45 =>
none) (fun w44 m45 =>
some ⟨.ret, [.tuple [undef, undef].toArray], m45, []⟩) (fun p48 w44 m45 =>
some ⟨.panic p48, [], m45, []⟩))
theorem R36 {a0 : Value} {m : Mem} {r : Out} (h : (x36 (LV CV) a0 ⟨[], m.next, m.next, 0⟩).bind (close m) = some r) (hc : [a0].all (clo FUEL) = true := by simp) : LV CV (.call 36) [a0] m [] = some r := R_callP (C := CV) (fn := ir36) rfl rfl rfl (Nat.le_of_ble_eq_true rfl) hc (x := x36 (LV CV) a0 ⟨[], m.next, m.next, 0⟩) (by kernel_rfl) h
def y3700 (O : Orc) (b0 b1 b2 b3 : Value) (m : Mem) : Option Out :=
(aBin .sub b2 (.int .i64 (1))).bind fun v0 =>
(aBin .rem b3 (.int .u64 (10))).bind fun v1 =>
(aBin .add (.int .u64 (48)) v1).bind fun v2 =>
(aInt .u8 v2).bind fun v3 =>
(vIdxArr 20 1 b1 v0).bind fun v4 =>
(aSt 1 v4 v3 m).bind fun m5 =>
(aBin .quo b3 (.int .u64 (10))).bind fun v6 =>
(aBin .eql v6 (.int .u64 (0))).bind fun v7 =>
br v7 (
some ⟨.exit 0, [b0, b1, v0, v6], m5, []⟩) (
O (.loop 3700) [b0, b1, v0, v6] m5 [])
theorem Q3700 {b0 b1 b2 b3 : Value} {m : Mem} {r : Out} (h : y3700 (LV CV) b0 b1 b2 b3 m = some r) : LV CV (.loop 3700) [b0, b1, b2, b3] m [] = some r := R_loopV (C := CV) (keep := [0, 3, 4, 5]) (b := lb3700) rfl (x := y3700 (LV CV) b0 b1 b2 b3 m) (by kernel_rfl) h
/-- noonmark/escape.Int -/
def x37 (O : Orc) (a0 : Value) (m : Mem) : Option Out :=
letK ((m).push ⟨1, [(.int .u8 (0)), (.int .u8 (0)), (.int .u8 (0)), (.int .u8 (0)), (.int .u8 (0)), (.int .u8 (0)), (.int .u8 (0)), (.int .u8 (0)), (.int .u8 (0)), (.int .u8 (0)), (.int .u8 (0)), (.int .u8 (0)), (.int .u8 (0)), (.int .u8 (0)), (.int .u8 (0)), (.int .u8 (0)), (.int .u8 (0)), (.int .u8 (0)), (.int .u8 (0)), (.int .u8 (0))]⟩) fun m0 =>
(aInt .u64 a0).bind fun v1 =>
cutN (
(aBin .lss a0 (.int .i64 (0))).bind fun v7 =>
br v7 (
(aUn .neg v1).bind fun v8 =>
some ⟨.normal, [a0, (.pointer (some ⟨(m).next, 0, none⟩)), (.int .i64 (20)), v8], m0, []⟩) (
some ⟨.normal, [a0, (.pointer (some ⟨(m).next, 0, none⟩)), (.int .i64 (20)), v1], m0, []⟩)) (fun w2 m3 =>
lpN (O (.loop 3700) [(w2.getD 0 undef), (w2.getD 1 undef), (w2.getD 2 undef), (w2.getD 3 undef)] m3 []) (fun id12 w9 m10 =>
if id12 = 0 then
(aBin .lss (w9.getD 0 undef) (.int .i64 (0))).bind fun v14 =>
br v14 (
(aBin .sub (w9.getD 2 undef) (.int .i64 (1))).bind fun v15 =>
(vIdxArr 20 1 (w9.getD 1 undef) v15).bind fun v16 =>
(aSt 1 v16 (.int .u8 (45)) m10).bind fun m17 =>
(aCutArr 20 1 (w9.getD 1 undef) (some v15) none m17).bind fun v18 =>
(vStr v18 m17).bind fun v19 =>
some ⟨.ret, [v19], m17, []⟩) (
(aCutArr 20 1 (w9.getD 1 undef) (some (w9.getD 2 undef)) none m10).bind fun v20 =>
(vStr v20 m10).bind fun v21 =>
some ⟨.ret, [v21], m10, []⟩) else
none) (fun w9 m10 =>
some ⟨.ret, [undef], m10, []⟩) (fun p13 w9 m10 =>
some ⟨.panic p13, [], m10, []⟩)) (fun id5 w2 m3 =>
none) (fun w2 m3 =>
some ⟨.ret, [undef], m3, []⟩) (fun p6 w2 m3 =>
some ⟨.panic p6, [], m3, []⟩)
theorem R37 {a0 : Value} {m : Mem} {r : Out} (h : (x37 (LV CV) a0 ⟨[], m.next, m.next, 0⟩).bind (close m) = some r) (hc : [a0].all (clo FUEL) = true := by simp) : LV CV (.call 37) [a0] m [] = some r := R_callP (C := CV) (fn := ir37) rfl rfl rfl (Nat.le_of_ble_eq_true rfl) hc (x := x37 (LV CV) a0 ⟨[], m.next, m.next, 0⟩) (by kernel_rfl) h
/-- noonmark/noonmarkref02.Int -/
def x38 (O : Orc) (a0 : Value) (m : Mem) : Option Out :=
(aBin .lss a0 (.int .i64 (0))).bind fun v0 =>
br v0 (
retK (O (.call 46) [a0] m []) (fun v1 m2 =>
(aBin .add (S [45]) v1).bind fun v4 =>
some ⟨.ret, [v4], m2, []⟩) (fun p3 m5 => some ⟨.panic p3, [], m5, []⟩)) (
(aUn .neg a0).bind fun v6 =>
retK (O (.call 46) [v6] m []) (fun v7 m8 =>
some ⟨.ret, [v7], m8, []⟩) (fun p9 m10 => some ⟨.panic p9, [], m10, []⟩))
theorem R38 {a0 : Value} {m : Mem} {r : Out} (h : (x38 (LV CV) a0 ⟨[], m.next, m.next, 0⟩).bind (close m) = some r) (hc : [a0].all (clo FUEL) = true := by simp) : LV CV (.call 38) [a0] m [] = some r := R_callP (C := CV) (fn := ir38) rfl rfl rfl (Nat.le_of_ble_eq_true rfl) hc (x := x38 (LV CV) a0 ⟨[], m.next, m.next, 0⟩) (by kernel_rfl) h
/-- (noonmark/keyword.set).has -/
def x40 (O : Orc) (a0 a1 : Value) (m : Mem) : Option Out :=
retK (O (.call 50) [a0, a1] m []) (fun v0 m1 =>
(aBin .geq v0 (.int .i64 (0))).bind fun v3 =>
some ⟨.ret, [v3], m1, []⟩) (fun p2 m4 => some ⟨.panic p2, [], m4, []⟩)
theorem R40 {a0 a1 : Value} {m : Mem} {r : Out} (h : (x40 (LV CV) a0 a1 ⟨[], m.next, m.next, 0⟩).bind (close m) = some r) (hc : [a0, a1].all (clo FUEL) = true := by simp) : LV CV (.call 40) [a0, a1] m [] = some r := R_callP (C := CV) (fn := ir40) rfl rfl rfl (Nat.le_of_ble_eq_true rfl) hc (x := x40 (LV CV) a0 a1 ⟨[], m.next, m.next, 0⟩) (by kernel_rfl) h
def y4100 (O : Orc) (b0 b1 b2 b3 : Value) (m : Mem) : Option Out :=
(aBin .lss b3 b2).bind fun v0 =>
br v0 (
(vIdx 1 b1 b3).bind fun v1 =>
(vLd 1 false v1 m).bind fun v2 =>
(aBin .leq (.int .u8 (65)) v2).bind fun v3 =>
br v3 (
(aBin .leq v2 (.int .u8 (90))).bind fun v4 =>
br v4 (
(aBin .or v2 (.int .u8 (32))).bind fun v5 =>
(vIdx 1 b0 b3).bind fun v6 =>
(aSt 1 v6 v5 m).bind fun m7 =>
(aBin .add b3 (.int .i64 (1))).bind fun v8 =>
O (.loop 4100) [b0, b1, b2, v8] m7 []) (
(aBin .add b3 (.int .i64 (1))).bind fun v9 =>
O (.loop 4100) [b0, b1, b2, v9] m [])) (
(aBin .add b3 (.int .i64 (1))).bind fun v10 =>
O (.loop 4100) [b0, b1, b2, v10] m [])) (
some ⟨.exit 0, [b0, b1, b2, b3], m, []⟩)
theorem Q4100 {b0 b1 b2 b3 : Value} {m : Mem} {r : Out} (h : y4100 (LV CV) b0 b1 b2 b3 m = some r) : LV CV (.loop 4100) [b0, b1, b2, b3] m [] = some r := R_loopV (C := CV) (keep := [3, 8, 9, 10]) (b := lb4100) rfl (x := y4100 (LV CV) b0 b1 b2 b3 m) (by kernel_rfl) h
/-- noonmark/keyword.small -/
def x41 (O : Orc) (a0 : Value) (m : Mem) : Option Out :=
(aBytes a0 m).bind fun r0 =>
(vLenL r0.1).bind fun v1 =>
lpN (O (.loop 4100) [r0.1, r0.1, v1, (.int .i64 (0))] r0.2 []) (fun id5 w2 m3 =>
if id5 = 0 then
(vStr (w2.getD 0 undef) m3).bind fun v7 =>
some ⟨.ret, [v7], m3, []⟩ else
none) (fun w2 m3 =>
some ⟨.ret, [undef], m3, []⟩) (fun p6 w2 m3 =>
some ⟨.panic p6, [], m3, []⟩)
theorem R41 {a0 : Value} {m : Mem} {r : Out} (h : (x41 (LV CV) a0 ⟨[], m.next, m.next, 0⟩).bind (close m) = some r) (hc : [a0].all (clo FUEL) = true := by simp) : LV CV (.call 41) [a0] m [] = some r := R_callP (C := CV) (fn := ir41) rfl rfl rfl (Nat.le_of_ble_eq_true rfl) hc (x := x41 (LV CV) a0 ⟨[], m.next, m.next, 0⟩) (by kernel_rfl) h
/-- strings.HasPrefix -/
def x42 (O : Orc) (a0 a1 : Value) (m : Mem) : Option Out :=
retK (O (.call 51) [a0, a1] m []) (fun v0 m1 =>
some ⟨.ret, [v0], m1, []⟩) (fun p2 m3 => some ⟨.panic p2, [], m3, []⟩)
theorem R42 {a0 a1 : Value} {m : Mem} {r : Out} (h : (x42 (LV CV) a0 a1 ⟨[], m.next, m.next, 0⟩).bind (close m) = some r) (hc : [a0, a1].all (clo FUEL) = true := by simp) : LV CV (.call 42) [a0, a1] m [] = some r := R_callP (C := CV) (fn := ir42) rfl rfl rfl (Nat.le_of_ble_eq_true rfl) hc (x := x42 (LV CV) a0 a1 ⟨[], m.next, m.next, 0⟩) (by kernel_rfl) h
def y4300 (O : Orc) (b0 b1 b2 : Value) (m : Mem) : Option Out :=
(aLenS b0).bind fun v0 =>
(aBin .lss b2 v0).bind fun v1 =>
br v1 (
(aByte b0 b2).bind fun v2 =>
(aBin .geq v2 (.int .u8 (65))).bind fun v3 =>
br v3 (
(aBin .leq v2 (.int .u8 (90))).bind fun v4 =>
br v4 (
(aBin .add v2 (.int .u8 (32))).bind fun v5 =>
(vLit 1 1 [(.int .u8 (0))] [(0, v5)] m).bind fun r6 =>
(vApp false 1 1 b1 r6.1 r6.2).bind fun r7 =>
(aBin .add b2 (.int .i64 (1))).bind fun v8 =>
O (.loop 4300) [b0, r7.1, v8] r7.2 []) (
(vLit 1 1 [(.int .u8 (0))] [(0, v2)] m).bind fun r9 =>
(vApp false 1 1 b1 r9.1 r9.2).bind fun r10 =>
(aBin .add b2 (.int .i64 (1))).bind fun v11 =>
O (.loop 4300) [b0, r10.1, v11] r10.2 [])) (
(vLit 1 1 [(.int .u8 (0))] [(0, v2)] m).bind fun r12 =>
(vApp false 1 1 b1 r12.1 r12.2).bind fun r13 =>
(aBin .add b2 (.int .i64 (1))).bind fun v14 =>
O (.loop 4300) [b0, r13.1, v14] r13.2 [])) (
some ⟨.exit 0, [b0, b1, b2], m, []⟩)
theorem Q4300 {b0 b1 b2 : Value} {m : Mem} {r : Out} (h : y4300 (LV CV) b0 b1 b2 m = some r) : LV CV (.loop 4300) [b0, b1, b2] m [] = some r := R_loopV (C := CV) (keep := [0, 3, 4]) (b := lb4300) rfl (x := y4300 (LV CV) b0 b1 b2 m) (by kernel_rfl) h
/-- noonmark/noonmarkref08.small -/
def x43 (O : Orc) (a0 : Value) (m : Mem) : Option Out :=
lpN (O (.loop 4300) [a0, (.slice none 0 0), (.int .i64 (0))] m []) (fun id3 w0 m1 =>
if id3 = 0 then
(vStr (w0.getD 1 undef) m1).bind fun v5 =>
some ⟨.ret, [v5], m1, []⟩ else
none) (fun w0 m1 =>
some ⟨.ret, [undef], m1, []⟩) (fun p4 w0 m1 =>
some ⟨.panic p4, [], m1, []⟩)
theorem R43 {a0 : Value} {m : Mem} {r : Out} (h : (x43 (LV CV) a0 ⟨[], m.next, m.next, 0⟩).bind (close m) = some r) (hc : [a0].all (clo FUEL) = true := by simp) : LV CV (.call 43) [a0] m [] = some r := R_callP (C := CV) (fn := ir43) rfl rfl rfl (Nat.le_of_ble_eq_true rfl) hc (x := x43 (LV CV) a0 ⟨[], m.next, m.next, 0⟩) (by kernel_rfl) h
/-- strings.CutPrefix -/
def x45 (O : Orc) (a0 a1 : Value) (m : Mem) : Option Out :=
retK (O (.call 54) [a0, a1] m []) (fun v0 m1 =>
(aExtract 0 v0).bind fun v3 =>
(aExtract 1 v0).bind fun v4 =>
some ⟨.ret, [.tuple [v3, v4].toArray], m1, []⟩) (fun p2 m5 => some ⟨.panic p2, [], m5, []⟩)
theorem R45 {a0 a1 : Value} {m : Mem} {r : Out} (h : (x45 (LV CV) a0 a1 ⟨[], m.next, m.next, 0⟩).bind (close m) = some r) (hc : [a0, a1].all (clo FUEL) = true := by simp) : LV CV (.call 45) [a0, a1] m [] = some r := R_callP (C := CV) (fn := ir45) rfl rfl rfl (Nat.le_of_ble_eq_true rfl) hc (x := x45 (LV CV) a0 a1 ⟨[], m.next, m.next, 0⟩) (by kernel_rfl) h
/-- noonmark/noonmarkref02.digits -/
def x46 (O : Orc) (a0 : Value) (m : Mem) : Option Out :=
(aBin .rem a0 (.int .i64 (10))).bind fun v0 =>
(aBin .sub (.int .i64 (48)) v0).bind fun v1 =>
(aInt .u8 v1).bind fun v2 =>
(vLit 1 1 [(.int .u8 (0))] [(0, v2)] m).bind fun r3 =>
(vStr r3.1 r3.2).bind fun v4 =>
(aBin .gtr a0 (.int .i64 (-10))).bind fun v5 =>
br v5 (
some ⟨.ret, [v4], r3.2, []⟩) (
(aBin .quo a0 (.int .i64 (10))).bind fun v6 =>
retK (O (.call 46) [v6] r3.2 []) (fun v7 m8 =>
(aBin .add v7 v4).bind fun v10 =>
some ⟨.ret, [v10], m8, []⟩) (fun p9 m11 => some ⟨.panic p9, [], m11, []⟩))
theorem R46 {a0 : Value} {m : Mem} {r : Out} (h : (x46 (LV CV) a0 ⟨[], m.next, m.next, 0⟩).bind (close m) = some r) (hc : [a0].all (clo FUEL) = true := by simp) : LV CV (.call 46) [a0] m [] = some r := R_callP (C := CV) (fn := ir46) rfl rfl rfl (Nat.le_of_ble_eq_true rfl) hc (x := x46 (LV CV) a0 ⟨[], m.next, m.next, 0⟩) (by kernel_rfl) h
/-- strings.IndexByte -/
def x50 (O : Orc) (a0 a1 : Value) (m : Mem) : Option Out :=
retK (O (.call 59) [a0, a1] m []) (fun v0 m1 =>
some ⟨.ret, [v0], m1, []⟩) (fun p2 m3 => some ⟨.panic p2, [], m3, []⟩)
theorem R50 {a0 a1 : Value} {m : Mem} {r : Out} (h : (x50 (LV CV) a0 a1 ⟨[], m.next, m.next, 0⟩).bind (close m) = some r) (hc : [a0, a1].all (clo FUEL) = true := by simp) : LV CV (.call 50) [a0, a1] m [] = some r := R_callP (C := CV) (fn := ir50) rfl rfl rfl (Nat.le_of_ble_eq_true rfl) hc (x := x50 (LV CV) a0 a1 ⟨[], m.next, m.next, 0⟩) (by kernel_rfl) h
/-- internal/stringslite.HasPrefix -/
def x51 (O : Orc) (a0 a1 : Value) (m : Mem) : Option Out :=
(aLenS a0).bind fun v0 =>
(aLenS a1).bind fun v1 =>
(aBin .geq v0 v1).bind fun v2 =>
br v2 (
(aLenS a1).bind fun v3 =>
(aCutStr a0 none (some v3)).bind fun v4 =>
(aBin .eql v4 a1).bind fun v5 =>
some ⟨.ret, [v5], m, []⟩) (
some ⟨.ret, [(.bool false)], m, []⟩)
theorem R51 {a0 a1 : Value} {m : Mem} {r : Out} (h : (x51 (LV CV) a0 a1 ⟨[], m.next, m.next, 0⟩).bind (close m) = some r) (hc : [a0, a1].all (clo FUEL) = true := by simp) : LV CV (.call 51) [a0, a1] m [] = some r := R_callP (C := CV) (fn := ir51) rfl rfl rfl (Nat.le_of_ble_eq_true rfl) hc (x := x51 (LV CV) a0 a1 ⟨[], m.next, m.next, 0⟩) (by kernel_rfl) h
/-- internal/stringslite.CutPrefix -/
def x54 (O : Orc) (a0 a1 : Value) (m : Mem) : Option Out :=
retK (O (.call 51) [a0, a1] m []) (fun v0 m1 =>
(aUn .not v0).bind fun v3 =>
br v3 (
some ⟨.ret, [.tuple [a0, (.bool false)].toArray], m1, []⟩) (
(aLenS a1).bind fun v4 =>
(aCutStr a0 (some v4) none).bind fun v5 =>
some ⟨.ret, [.tuple [v5, (.bool true)].toArray], m1, []⟩)) (fun p2 m6 => some ⟨.panic p2, [], m6, []⟩)
theorem R54 {a0 a1 : Value} {m : Mem} {r : Out} (h : (x54 (LV CV) a0 a1 ⟨[], m.next, m.next, 0⟩).bind (close m) = some r) (hc : [a0, a1].all (clo FUEL) = true := by simp) : LV CV (.call 54) [a0, a1] m [] = some r := R_callP (C := CV) (fn := ir54) rfl rfl rfl (Nat.le_of_ble_eq_true rfl) hc (x := x54 (LV CV) a0 a1 ⟨[], m.next, m.next, 0⟩) (by kernel_rfl) h
end Go.Proofs.YtibklmjoepckdaaDoor.D
