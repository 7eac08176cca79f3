/-
  The code that the statements reach, read: printed by Vtool, checked by the kernel.
-/
import Derived.Test.YtibklmjoepckdaaDoorD21
import Derived.Test.YtibklmjoepckdaaDoorProg
namespace Go.Proofs.YtibklmjoepckdaaDoor.D
open Go.RowKit
set_option maxRecDepth 100000
/-- noonmark/noonmarklaw08.KeywordNames -/
def an3 : An := (.s .z (.s (.s .z (.s (.s .z .z) .z)) (.s .z .z)))
def ir3 : IFun := ⟨22, [.tmp 2],
  .seq (.region [⟨(some 2), .plain (.move (.const (.bool false))), []⟩])
  (.seq (.seq (.region [⟨(some 3), .plain (.move (.tmp 0)), []⟩,
        ⟨(some 4), .plain (.len true (.tmp 3)), []⟩,
        ⟨(some 5), .plain (.bin .gtr (.tmp 4) (.const (.int .i64 (200)))), []⟩])
    (.cond (.tmp 5) (.seq (.region [⟨(some 6), .call 9 [], []⟩,
          ⟨(some 2), .plain (.move (.tmp 6)), []⟩])
      (.ret))
    (.skip)))
  (.seq (.region [⟨(some 7), .plain (.move (.tmp 0)), []⟩,
      ⟨(some 8), .call 10 [(.tmp 7)], []⟩,
      ⟨(some 9), .plain (.move (.tmp 0)), []⟩,
      ⟨(some 10), .call 11 [(.tmp 9)], []⟩,
      ⟨(some 11), .plain (.eqB false (.tmp 8) (.tmp 10)), []⟩,
      ⟨(some 12), .plain (.move (.tmp 11)), []⟩,
      ⟨(some 13), .plain (.move (.tmp 0)), [(12, true)]⟩,
      ⟨(some 14), .call 12 [(.tmp 13)], [(12, true)]⟩,
      ⟨(some 15), .plain (.move (.tmp 0)), [(12, true)]⟩,
      ⟨(some 16), .call 13 [(.tmp 15)], [(12, true)]⟩,
      ⟨(some 17), .plain (.eqB false (.tmp 14) (.tmp 16)), [(12, true)]⟩,
      ⟨(some 18), .plain (.pick (.tmp 12) (.tmp 17) (.const (.bool false))), []⟩,
      ⟨(some 19), .plain (.move (.tmp 18)), []⟩,
      ⟨(some 20), .call 9 [], [(19, true)]⟩,
      ⟨(some 21), .plain (.pick (.tmp 19) (.tmp 20) (.const (.bool false))), []⟩,
      ⟨(some 2), .plain (.move (.tmp 21)), []⟩])
  (.ret)))⟩
theorem comp3 : compF Tryd.prog an3 Tryd.f3 = some ir3 := by kernel_rfl
theorem lps3 : loopsF Tryd.prog an3 Tryd.f3 = [] := by kernel_rfl
/-- noonmark/noonmarklaw08.KeywordParts -/
def an4 : An := (.s .z (.s (.s .z (.s (.s .z .z) .z)) (.s (.s .z (.s (.s .z .z) .z)) (.s (.s .z (.s (.s .z .z) .z)) (.s .z .z)))))
def ir4 : IFun := ⟨61, [.tmp 4],
  .seq (.region [⟨(some 4), .plain (.move (.const (.bool false))), []⟩])
  (.seq (.seq (.region [⟨(some 5), .plain (.move (.tmp 0)), []⟩,
        ⟨(some 6), .plain (.len true (.tmp 5)), []⟩,
        ⟨(some 7), .plain (.bin .gtr (.tmp 6) (.const (.int .i64 (100)))), []⟩,
        ⟨(some 8), .plain (.move (.tmp 7)), []⟩,
        ⟨(some 9), .plain (.move (.tmp 1)), [(8, false)]⟩,
        ⟨(some 10), .plain (.len true (.tmp 9)), [(8, false)]⟩,
        ⟨(some 11), .plain (.bin .gtr (.tmp 10) (.const (.int .i64 (100)))), [(8, false)]⟩,
        ⟨(some 12), .plain (.pick (.tmp 8) (.const (.bool true)) (.tmp 11)), []⟩])
    (.cond (.tmp 12) (.seq (.region [⟨(some 13), .call 9 [], []⟩,
          ⟨(some 4), .plain (.move (.tmp 13)), []⟩])
      (.ret))
    (.skip)))
  (.seq (.seq (.region [⟨(some 14), .plain (.move (.tmp 0)), []⟩,
        ⟨(some 15), .call 10 [(.tmp 14)], []⟩,
        ⟨(some 16), .plain (.move (.tmp 15)), []⟩,
        ⟨(some 17), .plain (.move (.tmp 1)), [(16, true)]⟩,
        ⟨(some 18), .call 10 [(.tmp 17)], [(16, true)]⟩,
        ⟨(some 19), .plain (.pick (.tmp 16) (.tmp 18) (.const (.bool false))), []⟩,
        ⟨(some 20), .plain (.move (.tmp 19)), []⟩,
        ⟨(some 21), .plain (.move (.tmp 0)), [(20, true)]⟩,
        ⟨(some 22), .plain (.bin .add (.tmp 21) (.const (.string ⟨#[47]⟩))), [(20, true)]⟩,
        ⟨(some 23), .plain (.move (.tmp 1)), [(20, true)]⟩,
        ⟨(some 24), .plain (.bin .add (.tmp 22) (.tmp 23)), [(20, true)]⟩,
        ⟨(some 25), .call 10 [(.tmp 24)], [(20, true)]⟩,
        ⟨(some 26), .plain (.move (.tmp 0)), [(20, true)]⟩,
        ⟨(some 27), .plain (.len true (.tmp 26)), [(20, true)]⟩,
        ⟨(some 28), .plain (.bin .add (.tmp 27) (.const (.int .i64 (1)))), [(20, true)]⟩,
        ⟨(some 29), .plain (.move (.tmp 1)), [(20, true)]⟩,
        ⟨(some 30), .plain (.len true (.tmp 29)), [(20, true)]⟩,
        ⟨(some 31), .plain (.bin .add (.tmp 28) (.tmp 30)), [(20, true)]⟩,
        ⟨(some 32), .plain (.bin .leq (.tmp 31) (.const (.int .i64 (30)))), [(20, true)]⟩,
        ⟨(some 33), .plain (.eqB true (.tmp 25) (.tmp 32)), [(20, true)]⟩,
        ⟨(some 34), .plain (.pick (.tmp 20) (.tmp 33) (.const (.bool false))), []⟩])
    (.cond (.tmp 34) (.seq (.region [⟨(some 4), .plain (.move (.const (.bool false))), []⟩])
      (.ret))
    (.skip)))
  (.seq (.seq (.region [⟨(some 35), .plain (.move (.tmp 0)), []⟩,
        ⟨(some 36), .call 12 [(.tmp 35)], []⟩,
        ⟨(some 37), .plain (.move (.tmp 36)), []⟩,
        ⟨(some 38), .plain (.move (.tmp 0)), [(37, true)]⟩,
        ⟨(some 39), .call 10 [(.tmp 38)], [(37, true)]⟩,
        ⟨(some 40), .plain (.un .not (.tmp 39)), [(37, true)]⟩,
        ⟨(some 41), .plain (.pick (.tmp 37) (.tmp 40) (.const (.bool false))), []⟩])
    (.cond (.tmp 41) (.seq (.region [⟨(some 4), .plain (.move (.const (.bool false))), []⟩])
      (.ret))
    (.skip)))
  (.seq (.region [⟨(some 42), .plain (.move (.tmp 0)), []⟩,
      ⟨(some 43), .plain (.bin .add (.tmp 42) (.const (.string ⟨#[47]⟩))), []⟩,
      ⟨(some 44), .call 10 [(.tmp 43)], []⟩,
      ⟨(some 45), .plain (.un .not (.tmp 44)), []⟩,
      ⟨(some 46), .plain (.move (.tmp 45)), []⟩,
      ⟨(some 47), .plain (.move (.tmp 0)), [(46, true)]⟩,
      ⟨(some 48), .plain (.bin .add (.const (.string ⟨#[47]⟩)) (.tmp 47)), [(46, true)]⟩,
      ⟨(some 49), .call 10 [(.tmp 48)], [(46, true)]⟩,
      ⟨(some 50), .plain (.un .not (.tmp 49)), [(46, true)]⟩,
      ⟨(some 51), .plain (.pick (.tmp 46) (.tmp 50) (.const (.bool false))), []⟩,
      ⟨(some 52), .plain (.move (.tmp 51)), []⟩,
      ⟨(some 53), .plain (.move (.tmp 0)), [(52, true)]⟩,
      ⟨(some 54), .plain (.bin .add (.tmp 53) (.const (.string ⟨#[47, 98]⟩))), [(52, true)]⟩,
      ⟨(some 55), .call 12 [(.tmp 54)], [(52, true)]⟩,
      ⟨(some 56), .plain (.un .not (.tmp 55)), [(52, true)]⟩,
      ⟨(some 57), .plain (.pick (.tmp 52) (.tmp 56) (.const (.bool false))), []⟩,
      ⟨(some 58), .plain (.move (.tmp 57)), []⟩,
      ⟨(some 59), .call 9 [], [(58, true)]⟩,
      ⟨(some 60), .plain (.pick (.tmp 58) (.tmp 59) (.const (.bool false))), []⟩,
      ⟨(some 4), .plain (.move (.tmp 60)), []⟩])
  (.ret)))))⟩
theorem comp4 : compF Tryd.prog an4 Tryd.f4 = some ir4 := by kernel_rfl
theorem lps4 : loopsF Tryd.prog an4 Tryd.f4 = [] := by kernel_rfl
/-- noonmark/noonmarklaw08.KeywordWords -/
def an5 : An := (.s .z (.s (.s .z (.s (.s .z .z) .z)) (.s .z .z)))
def ir5 : IFun := ⟨31, [.tmp 4],
  .seq (.region [⟨(some 4), .plain (.move (.const (.bool false))), []⟩])
  (.seq (.seq (.region [⟨(some 5), .plain (.move (.tmp 0)), []⟩,
        ⟨(some 6), .plain (.len true (.tmp 5)), []⟩,
        ⟨(some 7), .plain (.bin .gtr (.tmp 6) (.const (.int .i64 (200)))), []⟩])
    (.cond (.tmp 7) (.seq (.region [⟨(some 8), .call 9 [], []⟩,
          ⟨(some 4), .plain (.move (.tmp 8)), []⟩])
      (.ret))
    (.skip)))
  (.seq (.region [⟨(some 9), .plain (.move (.tmp 0)), []⟩,
      ⟨(some 10), .call 14 [(.tmp 9)], []⟩,
      ⟨(some 11), .plain (.move (.tmp 0)), []⟩,
      ⟨(some 12), .call 15 [(.tmp 11)], []⟩,
      ⟨(some 13), .plain (.bin .eql (.tmp 10) (.tmp 12)), []⟩,
      ⟨(some 14), .plain (.move (.tmp 13)), []⟩,
      ⟨(some 15), .plain (.move (.tmp 0)), [(14, true)]⟩,
      ⟨(some 16), .call 16 [(.tmp 15)], [(14, true)]⟩,
      ⟨(some 17), .plain (.move (.tmp 0)), [(14, true)]⟩,
      ⟨(some 18), .call 17 [(.tmp 17)], [(14, true)]⟩,
      ⟨(some 19), .plain (.bin .eql (.tmp 16) (.tmp 18)), [(14, true)]⟩,
      ⟨(some 20), .plain (.pick (.tmp 14) (.tmp 19) (.const (.bool false))), []⟩,
      ⟨(some 21), .plain (.move (.tmp 20)), []⟩,
      ⟨(some 22), .plain (.move (.tmp 1)), [(21, true)]⟩,
      ⟨(some 23), .call 18 [(.tmp 22)], [(21, true)]⟩,
      ⟨(some 24), .plain (.move (.tmp 1)), [(21, true)]⟩,
      ⟨(some 25), .call 19 [(.tmp 24)], [(21, true)]⟩,
      ⟨(some 26), .plain (.bin .eql (.tmp 23) (.tmp 25)), [(21, true)]⟩,
      ⟨(some 27), .plain (.pick (.tmp 21) (.tmp 26) (.const (.bool false))), []⟩,
      ⟨(some 28), .plain (.move (.tmp 27)), []⟩,
      ⟨(some 29), .call 9 [], [(28, true)]⟩,
      ⟨(some 30), .plain (.pick (.tmp 28) (.tmp 29) (.const (.bool false))), []⟩,
      ⟨(some 4), .plain (.move (.tmp 30)), []⟩])
  (.ret)))⟩
theorem comp5 : compF Tryd.prog an5 Tryd.f5 = some ir5 := by kernel_rfl
theorem lps5 : loopsF Tryd.prog an5 Tryd.f5 = [] := by kernel_rfl
/-- noonmark/noonmarklaw08.KeywordLonger -/
def an6 : An := (.s .z (.s (.s .z (.s (.s .z .z) .z)) (.s .z (.s .z (.k [0, 1, 2, 8] (.s .z (.s .z .z)) (.s .z (.k [0, 1, 8, 9] (.s .z (.s (.s .z (.s .z .z)) .z)) (.s .z (.s .z (.s .z .z))))))))))
def ir6 : IFun := ⟨106, [.tmp 6],
  .seq (.region [⟨(some 6), .plain (.move (.const (.bool false))), []⟩])
  (.seq (.seq (.region [⟨(some 13), .plain (.move (.tmp 0)), []⟩,
        ⟨(some 14), .plain (.bin .lss (.tmp 13) (.const (.int .i64 (1)))), []⟩,
        ⟨(some 15), .plain (.move (.tmp 14)), []⟩,
        ⟨(some 16), .plain (.move (.tmp 0)), [(15, false)]⟩,
        ⟨(some 17), .plain (.bin .gtr (.tmp 16) (.const (.int .i64 (12)))), [(15, false)]⟩,
        ⟨(some 18), .plain (.pick (.tmp 15) (.const (.bool true)) (.tmp 17)), []⟩,
        ⟨(some 19), .plain (.move (.tmp 18)), []⟩,
        ⟨(some 20), .plain (.move (.tmp 1)), [(19, false)]⟩,
        ⟨(some 21), .plain (.bin .lss (.tmp 20) (.const (.int .i64 (1)))), [(19, false)]⟩,
        ⟨(some 22), .plain (.pick (.tmp 19) (.const (.bool true)) (.tmp 21)), []⟩,
        ⟨(some 23), .plain (.move (.tmp 22)), []⟩,
        ⟨(some 24), .plain (.move (.tmp 1)), [(23, false)]⟩,
        ⟨(some 25), .plain (.bin .gtr (.tmp 24) (.const (.int .i64 (9)))), [(23, false)]⟩,
        ⟨(some 26), .plain (.pick (.tmp 23) (.const (.bool true)) (.tmp 25)), []⟩])
    (.cond (.tmp 26) (.seq (.region [⟨(some 27), .call 9 [], []⟩,
          ⟨(some 6), .plain (.move (.tmp 27)), []⟩])
      (.ret))
    (.skip)))
  (.seq (.region [⟨(some 28), .plain (.lit 1 12 [(.string ⟨#[]⟩)] [(0, (.const (.string ⟨#[106, 97, 110, 117, 97, 114, 121]⟩))), (1, (.const (.string ⟨#[102, 101, 98, 114, 117, 97, 114, 121]⟩))), (2, (.const (.string ⟨#[109, 97, 114, 99, 104]⟩))), (3, (.const (.string ⟨#[97, 112, 114, 105, 108]⟩))), (4, (.const (.string ⟨#[109, 97, 121]⟩))), (5, (.const (.string ⟨#[106, 117, 110, 101]⟩))), (6, (.const (.string ⟨#[106, 117, 108, 121]⟩))), (7, (.const (.string ⟨#[97, 117, 103, 117, 115, 116]⟩))), (8, (.const (.string ⟨#[115, 101, 112, 116, 101, 109, 98, 101, 114]⟩))), (9, (.const (.string ⟨#[111, 99, 116, 111, 98, 101, 114]⟩))), (10, (.const (.string ⟨#[110, 111, 118, 101, 109, 98, 101, 114]⟩))), (11, (.const (.string ⟨#[100, 101, 99, 101, 109, 98, 101, 114]⟩)))]), []⟩,
      ⟨(some 7), .plain (.move (.tmp 28)), []⟩])
  (.seq (.region [⟨(some 29), .plain (.move (.tmp 7)), []⟩,
      ⟨(some 30), .plain (.move (.tmp 0)), []⟩,
      ⟨(some 31), .plain (.bin .sub (.tmp 30) (.const (.int .i64 (1)))), []⟩,
      ⟨(some 32), .plain (.idx 1 (.tmp 29) (.tmp 31)), []⟩,
      ⟨(some 33), .plain (.load 1 false (.tmp 32)), []⟩,
      ⟨(some 8), .plain (.move (.tmp 33)), []⟩])
  (.cut [0, 1, 2, 8] (.seq (.region [⟨(some 34), .plain (.move (.tmp 1)), []⟩,
        ⟨(some 35), .plain (.move (.tmp 8)), []⟩,
        ⟨(some 36), .plain (.len true (.tmp 35)), []⟩,
        ⟨(some 37), .plain (.bin .gtr (.tmp 34) (.tmp 36)), []⟩])
    (.cond (.tmp 37) (.region [⟨(some 38), .plain (.move (.tmp 8)), []⟩,
        ⟨(some 39), .plain (.len true (.tmp 38)), []⟩,
        ⟨(some 1), .plain (.move (.tmp 39)), []⟩])
    (.skip)))
  (.seq (.region [⟨(some 40), .plain (.move (.tmp 8)), []⟩,
      ⟨(some 41), .plain (.move (.tmp 1)), []⟩,
      ⟨(some 42), .plain (.cutStr (.tmp 40) none (some (.tmp 41))), []⟩,
      ⟨(some 9), .plain (.move (.tmp 42)), []⟩])
  (.cut [0, 1, 8, 9] (.seq (.region [⟨(some 43), .plain (.move (.tmp 2)), []⟩])
    (.cond (.tmp 43) (.seq (.region [⟨(some 44), .plain (.move (.tmp 9)), []⟩,
          ⟨(some 45), .plain (.toBytes (.tmp 44)), []⟩,
          ⟨(some 10), .plain (.move (.tmp 45)), []⟩])
      (.seq (.region [⟨(some 46), .plain (.move (.tmp 10)), []⟩,
          ⟨(some 47), .plain (.move (.tmp 10)), []⟩,
          ⟨(some 48), .plain (.idx 1 (.tmp 47) (.const (.int .i64 (0)))), []⟩,
          ⟨(some 49), .plain (.load 1 false (.tmp 48)), []⟩,
          ⟨(some 50), .plain (.bin .sub (.tmp 49) (.const (.int .u8 (32)))), []⟩,
          ⟨(some 51), .plain (.idx 1 (.tmp 46) (.const (.int .i64 (0)))), []⟩,
          ⟨none, .plain (.store 1 (.tmp 51) (.tmp 50)), []⟩])
      (.region [⟨(some 52), .plain (.move (.tmp 10)), []⟩,
        ⟨(some 53), .plain (.toStr (.tmp 52)), []⟩,
        ⟨(some 9), .plain (.move (.tmp 53)), []⟩])))
    (.skip)))
  (.seq (.region [⟨(some 54), .plain (.move (.tmp 9)), []⟩,
      ⟨(some 55), .call 16 [(.tmp 54)], []⟩,
      ⟨(some 11), .plain (.move (.tmp 55)), []⟩])
  (.seq (.region [⟨(some 56), .plain (.move (.tmp 8)), []⟩,
      ⟨(some 57), .plain (.move (.tmp 1)), []⟩,
      ⟨(some 58), .plain (.bin .add (.tmp 57) (.const (.int .i64 (1)))), []⟩,
      ⟨(some 59), .plain (.move (.tmp 8)), []⟩,
      ⟨(some 60), .plain (.len true (.tmp 59)), []⟩,
      ⟨(some 61), .plain (.mm false [(.tmp 58), (.tmp 60)]), []⟩,
      ⟨(some 62), .plain (.cutStr (.tmp 56) none (some (.tmp 61))), []⟩,
      ⟨(some 63), .call 16 [(.tmp 62)], []⟩,
      ⟨(some 12), .plain (.move (.tmp 63)), []⟩])
  (.seq (.region [⟨(some 64), .plain (.move (.tmp 11)), []⟩,
      ⟨(some 65), .plain (.bin .eql (.tmp 64) (.const (.int .i64 (0)))), []⟩,
      ⟨(some 66), .plain (.move (.tmp 65)), []⟩,
      ⟨(some 67), .plain (.move (.tmp 11)), [(66, false)]⟩,
      ⟨(some 68), .plain (.move (.tmp 0)), [(66, false)]⟩,
      ⟨(some 69), .plain (.bin .eql (.tmp 67) (.tmp 68)), [(66, false)]⟩,
      ⟨(some 70), .plain (.pick (.tmp 66) (.const (.bool true)) (.tmp 69)), []⟩,
      ⟨(some 71), .plain (.move (.tmp 70)), []⟩,
      ⟨(some 72), .plain (.move (.tmp 11)), [(71, true)]⟩,
      ⟨(some 73), .plain (.bin .eql (.tmp 72) (.const (.int .i64 (0)))), [(71, true)]⟩,
      ⟨(some 74), .plain (.move (.tmp 73)), [(71, true)]⟩,
      ⟨(some 75), .plain (.move (.tmp 12)), [(71, true), (74, false)]⟩,
      ⟨(some 76), .plain (.move (.tmp 0)), [(71, true), (74, false)]⟩,
      ⟨(some 77), .plain (.bin .eql (.tmp 75) (.tmp 76)), [(71, true), (74, false)]⟩,
      ⟨(some 78), .plain (.pick (.tmp 74) (.const (.bool true)) (.tmp 77)), [(71, true)]⟩,
      ⟨(some 79), .plain (.pick (.tmp 71) (.tmp 78) (.const (.bool false))), []⟩,
      ⟨(some 80), .plain (.move (.tmp 79)), []⟩,
      ⟨(some 81), .plain (.move (.tmp 8)), [(80, true)]⟩,
      ⟨(some 82), .call 16 [(.tmp 81)], [(80, true)]⟩,
      ⟨(some 83), .plain (.move (.tmp 0)), [(80, true)]⟩,
      ⟨(some 84), .plain (.bin .eql (.tmp 82) (.tmp 83)), [(80, true)]⟩,
      ⟨(some 85), .plain (.pick (.tmp 80) (.tmp 84) (.const (.bool false))), []⟩,
      ⟨(some 86), .plain (.move (.tmp 85)), []⟩,
      ⟨(some 87), .plain (.move (.tmp 8)), [(86, true)]⟩,
      ⟨(some 88), .plain (.move (.tmp 8)), [(86, true)]⟩,
      ⟨(some 89), .plain (.len true (.tmp 88)), [(86, true)]⟩,
      ⟨(some 90), .plain (.mm false [(.const (.int .i64 (3))), (.tmp 89)]), [(86, true)]⟩,
      ⟨(some 91), .plain (.cutStr (.tmp 87) none (some (.tmp 90))), [(86, true)]⟩,
      ⟨(some 92), .call 16 [(.tmp 91)], [(86, true)]⟩,
      ⟨(some 93), .plain (.move (.tmp 0)), [(86, true)]⟩,
      ⟨(some 94), .plain (.bin .eql (.tmp 92) (.tmp 93)), [(86, true)]⟩,
      ⟨(some 95), .plain (.pick (.tmp 86) (.tmp 94) (.const (.bool false))), []⟩,
      ⟨(some 96), .plain (.move (.tmp 95)), []⟩,
      ⟨(some 97), .plain (.move (.tmp 0)), [(96, true)]⟩,
      ⟨(some 98), .call 18 [(.tmp 97)], [(96, true)]⟩,
      ⟨(some 99), .call 16 [(.tmp 98)], [(96, true)]⟩,
      ⟨(some 100), .plain (.move (.tmp 0)), [(96, true)]⟩,
      ⟨(some 101), .plain (.bin .eql (.tmp 99) (.tmp 100)), [(96, true)]⟩,
      ⟨(some 102), .plain (.pick (.tmp 96) (.tmp 101) (.const (.bool false))), []⟩,
      ⟨(some 103), .plain (.move (.tmp 102)), []⟩,
      ⟨(some 104), .call 9 [], [(103, true)]⟩,
      ⟨(some 105), .plain (.pick (.tmp 103) (.tmp 104) (.const (.bool false))), []⟩,
      ⟨(some 6), .plain (.move (.tmp 105)), []⟩])
  (.ret))))))))))⟩
theorem comp6 : compF Tryd.prog an6 Tryd.f6 = some ir6 := by kernel_rfl
theorem lps6 : loopsF Tryd.prog an6 Tryd.f6 = [] := by kernel_rfl
/-- noonmark/noonmarklaw08.KeywordYears -/
def an7 : An := (.s .z (.s (.s .z (.s (.s .z .z) .z)) (.s .z (.s .z (.s .z (.s .z (.s .z (.s .z (.s .z .z)))))))))
def ir7 : IFun := ⟨88, [.tmp 6],
  .seq (.region [⟨(some 6), .plain (.move (.const (.bool false))), []⟩])
  (.seq (.seq (.region [⟨(some 19), .plain (.move (.tmp 0)), []⟩,
        ⟨(some 20), .plain (.len true (.tmp 19)), []⟩,
        ⟨(some 21), .plain (.bin .gtr (.tmp 20) (.const (.int .i64 (200)))), []⟩])
    (.cond (.tmp 21) (.seq (.region [⟨(some 22), .call 9 [], []⟩,
          ⟨(some 6), .plain (.move (.tmp 22)), []⟩])
      (.ret))
    (.skip)))
  (.seq (.region [⟨(some 24), .plain (.move (.tmp 0)), []⟩,
      ⟨(some 25), .call 20 [(.tmp 24)], []⟩,
      ⟨(some 23), .plain (.move (.tmp 25)), []⟩,
      ⟨(some 26), .plain (.extract 0 (.tmp 23)), []⟩,
      ⟨(some 27), .plain (.extract 1 (.tmp 23)), []⟩,
      ⟨(some 7), .plain (.move (.tmp 26)), []⟩,
      ⟨(some 8), .plain (.move (.tmp 27)), []⟩])
  (.seq (.region [⟨(some 29), .plain (.move (.tmp 0)), []⟩,
      ⟨(some 30), .call 21 [(.tmp 29)], []⟩,
      ⟨(some 28), .plain (.move (.tmp 30)), []⟩,
      ⟨(some 31), .plain (.extract 0 (.tmp 28)), []⟩,
      ⟨(some 32), .plain (.extract 1 (.tmp 28)), []⟩,
      ⟨(some 9), .plain (.move (.tmp 31)), []⟩,
      ⟨(some 10), .plain (.move (.tmp 32)), []⟩])
  (.seq (.region [⟨(some 34), .plain (.move (.tmp 0)), []⟩,
      ⟨(some 35), .plain (.move (.tmp 1)), []⟩,
      ⟨(some 36), .call 22 [(.tmp 34), (.tmp 35)], []⟩,
      ⟨(some 33), .plain (.move (.tmp 36)), []⟩,
      ⟨(some 37), .plain (.extract 0 (.tmp 33)), []⟩,
      ⟨(some 38), .plain (.extract 1 (.tmp 33)), []⟩,
      ⟨(some 11), .plain (.move (.tmp 37)), []⟩,
      ⟨(some 12), .plain (.move (.tmp 38)), []⟩])
  (.seq (.region [⟨(some 40), .plain (.move (.tmp 0)), []⟩,
      ⟨(some 41), .plain (.move (.tmp 1)), []⟩,
      ⟨(some 42), .call 23 [(.tmp 40), (.tmp 41)], []⟩,
      ⟨(some 39), .plain (.move (.tmp 42)), []⟩,
      ⟨(some 43), .plain (.extract 0 (.tmp 39)), []⟩,
      ⟨(some 44), .plain (.extract 1 (.tmp 39)), []⟩,
      ⟨(some 13), .plain (.move (.tmp 43)), []⟩,
      ⟨(some 14), .plain (.move (.tmp 44)), []⟩])
  (.seq (.region [⟨(some 46), .plain (.move (.tmp 1)), []⟩,
      ⟨(some 47), .plain (.move (.tmp 2)), []⟩,
      ⟨(some 48), .call 24 [(.tmp 46), (.tmp 47)], []⟩,
      ⟨(some 45), .plain (.move (.tmp 48)), []⟩,
      ⟨(some 49), .plain (.extract 0 (.tmp 45)), []⟩,
      ⟨(some 50), .plain (.extract 1 (.tmp 45)), []⟩,
      ⟨(some 15), .plain (.move (.tmp 49)), []⟩,
      ⟨(some 16), .plain (.move (.tmp 50)), []⟩])
  (.seq (.region [⟨(some 52), .plain (.move (.tmp 1)), []⟩,
      ⟨(some 53), .plain (.move (.tmp 2)), []⟩,
      ⟨(some 54), .call 25 [(.tmp 52), (.tmp 53)], []⟩,
      ⟨(some 51), .plain (.move (.tmp 54)), []⟩,
      ⟨(some 55), .plain (.extract 0 (.tmp 51)), []⟩,
      ⟨(some 56), .plain (.extract 1 (.tmp 51)), []⟩,
      ⟨(some 17), .plain (.move (.tmp 55)), []⟩,
      ⟨(some 18), .plain (.move (.tmp 56)), []⟩])
  (.seq (.region [⟨(some 57), .plain (.move (.tmp 7)), []⟩,
      ⟨(some 58), .plain (.move (.tmp 9)), []⟩,
      ⟨(some 59), .plain (.bin .eql (.tmp 57) (.tmp 58)), []⟩,
      ⟨(some 60), .plain (.move (.tmp 59)), []⟩,
      ⟨(some 61), .plain (.move (.tmp 8)), [(60, true)]⟩,
      ⟨(some 62), .plain (.move (.tmp 10)), [(60, true)]⟩,
      ⟨(some 63), .plain (.bin .eql (.tmp 61) (.tmp 62)), [(60, true)]⟩,
      ⟨(some 64), .plain (.pick (.tmp 60) (.tmp 63) (.const (.bool false))), []⟩,
      ⟨(some 65), .plain (.move (.tmp 64)), []⟩,
      ⟨(some 66), .plain (.move (.tmp 11)), [(65, true)]⟩,
      ⟨(some 67), .plain (.move (.tmp 13)), [(65, true)]⟩,
      ⟨(some 68), .plain (.bin .eql (.tmp 66) (.tmp 67)), [(65, true)]⟩,
      ⟨(some 69), .plain (.pick (.tmp 65) (.tmp 68) (.const (.bool false))), []⟩,
      ⟨(some 70), .plain (.move (.tmp 69)), []⟩,
      ⟨(some 71), .plain (.move (.tmp 12)), [(70, true)]⟩,
      ⟨(some 72), .plain (.move (.tmp 14)), [(70, true)]⟩,
      ⟨(some 73), .plain (.bin .eql (.tmp 71) (.tmp 72)), [(70, true)]⟩,
      ⟨(some 74), .plain (.pick (.tmp 70) (.tmp 73) (.const (.bool false))), []⟩,
      ⟨(some 75), .plain (.move (.tmp 74)), []⟩,
      ⟨(some 76), .plain (.move (.tmp 15)), [(75, true)]⟩,
      ⟨(some 77), .plain (.move (.tmp 17)), [(75, true)]⟩,
      ⟨(some 78), .plain (.bin .eql (.tmp 76) (.tmp 77)), [(75, true)]⟩,
      ⟨(some 79), .plain (.pick (.tmp 75) (.tmp 78) (.const (.bool false))), []⟩,
      ⟨(some 80), .plain (.move (.tmp 79)), []⟩,
      ⟨(some 81), .plain (.move (.tmp 16)), [(80, true)]⟩,
      ⟨(some 82), .plain (.move (.tmp 18)), [(80, true)]⟩,
      ⟨(some 83), .plain (.bin .eql (.tmp 81) (.tmp 82)), [(80, true)]⟩,
      ⟨(some 84), .plain (.pick (.tmp 80) (.tmp 83) (.const (.bool false))), []⟩,
      ⟨(some 85), .plain (.move (.tmp 84)), []⟩,
      ⟨(some 86), .call 9 [], [(85, true)]⟩,
      ⟨(some 87), .plain (.pick (.tmp 85) (.tmp 86) (.const (.bool false))), []⟩,
      ⟨(some 6), .plain (.move (.tmp 87)), []⟩])
  (.ret)))))))))⟩
theorem comp7 : compF Tryd.prog an7 Tryd.f7 = some ir7 := by kernel_rfl
theorem lps7 : loopsF Tryd.prog an7 Tryd.f7 = [] := by kernel_rfl
/-- noonmark/noonmarklaw08.KeywordBack -/
def an8 : An := (.s .z (.s .z (.s (.s .z (.s (.s .z .z) .z)) (.s .z (.s .z .z)))))
def ir8 : IFun := ⟨57, [.tmp 4],
  .seq (.region [⟨(some 4), .plain (.move (.const (.bool false))), []⟩])
  (.seq (.region [⟨(some 10), .plain (.move (.tmp 0)), []⟩,
      ⟨(some 11), .plain (.move (.tmp 1)), []⟩,
      ⟨(some 12), .call 24 [(.tmp 10), (.tmp 11)], []⟩,
      ⟨(some 9), .plain (.move (.tmp 12)), []⟩,
      ⟨(some 13), .plain (.extract 0 (.tmp 9)), []⟩,
      ⟨(some 14), .plain (.extract 1 (.tmp 9)), []⟩,
      ⟨(some 5), .plain (.move (.tmp 13)), []⟩,
      ⟨(some 6), .plain (.move (.tmp 14)), []⟩])
  (.seq (.seq (.region [⟨(some 15), .plain (.move (.tmp 6)), []⟩,
        ⟨(some 16), .plain (.bin .neq (.tmp 15) (.const (.int .i64 (0)))), []⟩])
    (.cond (.tmp 16) (.seq (.region [⟨(some 17), .plain (.move (.tmp 5)), []⟩,
          ⟨(some 18), .plain (.bin .eql (.tmp 17) (.const (.string ⟨#[]⟩))), []⟩,
          ⟨(some 19), .plain (.move (.tmp 18)), []⟩,
          ⟨(some 20), .plain (.move (.tmp 6)), [(19, true)]⟩,
          ⟨(some 21), .plain (.bin .eql (.tmp 20) (.const (.int .i64 (8)))), [(19, true)]⟩,
          ⟨(some 22), .plain (.pick (.tmp 19) (.tmp 21) (.const (.bool false))), []⟩,
          ⟨(some 23), .plain (.move (.tmp 22)), []⟩,
          ⟨(some 24), .call 9 [], [(23, true)]⟩,
          ⟨(some 25), .plain (.pick (.tmp 23) (.tmp 24) (.const (.bool false))), []⟩,
          ⟨(some 4), .plain (.move (.tmp 25)), []⟩])
      (.ret))
    (.skip)))
  (.seq (.region [⟨(some 27), .plain (.move (.tmp 5)), []⟩,
      ⟨(some 28), .plain (.move (.tmp 0)), []⟩,
      ⟨(some 29), .call 22 [(.tmp 27), (.tmp 28)], []⟩,
      ⟨(some 26), .plain (.move (.tmp 29)), []⟩,
      ⟨(some 30), .plain (.extract 0 (.tmp 26)), []⟩,
      ⟨(some 31), .plain (.extract 1 (.tmp 26)), []⟩,
      ⟨(some 7), .plain (.move (.tmp 30)), []⟩,
      ⟨(some 8), .plain (.move (.tmp 31)), []⟩])
  (.seq (.region [⟨(some 32), .plain (.move (.tmp 8)), []⟩,
      ⟨(some 33), .plain (.bin .eql (.tmp 32) (.const (.int .i64 (0)))), []⟩,
      ⟨(some 34), .plain (.move (.tmp 33)), []⟩,
      ⟨(some 35), .plain (.move (.tmp 7)), [(34, true)]⟩,
      ⟨(some 36), .plain (.move (.tmp 1)), [(34, true)]⟩,
      ⟨(some 37), .plain (.bin .eql (.tmp 35) (.tmp 36)), [(34, true)]⟩,
      ⟨(some 38), .plain (.pick (.tmp 34) (.tmp 37) (.const (.bool false))), []⟩,
      ⟨(some 39), .plain (.move (.tmp 38)), []⟩,
      ⟨(some 40), .plain (.move (.tmp 5)), [(39, true)]⟩,
      ⟨(some 41), .plain (.bin .eql (.tmp 40) (.const (.string ⟨#[111, 110, 108, 121]⟩))), [(39, true)]⟩,
      ⟨(some 42), .plain (.move (.tmp 0)), [(39, true)]⟩,
      ⟨(some 43), .plain (.move (.tmp 1)), [(39, true)]⟩,
      ⟨(some 44), .plain (.bin .eql (.tmp 42) (.tmp 43)), [(39, true)]⟩,
      ⟨(some 45), .plain (.eqB false (.tmp 41) (.tmp 44)), [(39, true)]⟩,
      ⟨(some 46), .plain (.pick (.tmp 39) (.tmp 45) (.const (.bool false))), []⟩,
      ⟨(some 47), .plain (.move (.tmp 46)), []⟩,
      ⟨(some 48), .plain (.move (.tmp 5)), [(47, true)]⟩,
      ⟨(some 49), .plain (.bin .eql (.tmp 48) (.const (.string ⟨#[109, 97, 120]⟩))), [(47, true)]⟩,
      ⟨(some 50), .plain (.move (.tmp 1)), [(47, true)]⟩,
      ⟨(some 51), .plain (.bin .eql (.tmp 50) (.const (.int .i64 (10000)))), [(47, true)]⟩,
      ⟨(some 52), .plain (.eqB false (.tmp 49) (.tmp 51)), [(47, true)]⟩,
      ⟨(some 53), .plain (.pick (.tmp 47) (.tmp 52) (.const (.bool false))), []⟩,
      ⟨(some 54), .plain (.move (.tmp 53)), []⟩,
      ⟨(some 55), .call 9 [], [(54, true)]⟩,
      ⟨(some 56), .plain (.pick (.tmp 54) (.tmp 55) (.const (.bool false))), []⟩,
      ⟨(some 4), .plain (.move (.tmp 56)), []⟩])
  (.ret)))))⟩
theorem comp8 : compF Tryd.prog an8 Tryd.f8 = some ir8 := by kernel_rfl
theorem lps8 : loopsF Tryd.prog an8 Tryd.f8 = [] := by kernel_rfl
/-- noonmark/noonmarklaw08.alive -/
def an9 : An := (.s .z (.s .z (.s .z (.s .z .z))))
def ir9 : IFun := ⟨42, [.tmp 0],
  .seq (.region [⟨(some 0), .plain (.move (.const (.bool false))), []⟩])
  (.seq (.region [⟨(some 6), .call 22 [(.const (.string ⟨#[109, 97]⟩)), (.const (.int .i64 (2000)))], []⟩,
      ⟨(some 5), .plain (.move (.tmp 6)), []⟩,
      ⟨(some 7), .plain (.extract 0 (.tmp 5)), []⟩,
      ⟨(some 8), .plain (.extract 1 (.tmp 5)), []⟩,
      ⟨(some 1), .plain (.move (.tmp 7)), []⟩,
      ⟨(some 2), .plain (.move (.tmp 8)), []⟩])
  (.seq (.region [⟨(some 10), .call 22 [(.const (.string ⟨#[109]⟩)), (.const (.int .i64 (2000)))], []⟩,
      ⟨(some 9), .plain (.move (.tmp 10)), []⟩,
      ⟨(some 11), .plain (.extract 0 (.tmp 9)), []⟩,
      ⟨(some 12), .plain (.extract 1 (.tmp 9)), []⟩,
      ⟨(some 3), .plain (.move (.tmp 11)), []⟩,
      ⟨(some 4), .plain (.move (.tmp 12)), []⟩])
  (.seq (.region [⟨(some 13), .call 16 [(.const (.string ⟨#[106, 117]⟩))], []⟩,
      ⟨(some 14), .plain (.bin .eql (.tmp 13) (.const (.int .i64 (0)))), []⟩,
      ⟨(some 15), .plain (.move (.tmp 14)), []⟩,
      ⟨(some 16), .call 16 [(.const (.string ⟨#[74, 85, 78]⟩))], [(15, true)]⟩,
      ⟨(some 17), .plain (.bin .eql (.tmp 16) (.const (.int .i64 (6)))), [(15, true)]⟩,
      ⟨(some 18), .plain (.pick (.tmp 15) (.tmp 17) (.const (.bool false))), []⟩,
      ⟨(some 19), .plain (.move (.tmp 18)), []⟩,
      ⟨(some 20), .plain (.move (.tmp 1)), [(19, true)]⟩,
      ⟨(some 21), .plain (.bin .eql (.tmp 20) (.const (.int .i64 (10000)))), [(19, true)]⟩,
      ⟨(some 22), .plain (.pick (.tmp 19) (.tmp 21) (.const (.bool false))), []⟩,
      ⟨(some 23), .plain (.move (.tmp 22)), []⟩,
      ⟨(some 24), .plain (.move (.tmp 2)), [(23, true)]⟩,
      ⟨(some 25), .plain (.bin .eql (.tmp 24) (.const (.int .i64 (0)))), [(23, true)]⟩,
      ⟨(some 26), .plain (.pick (.tmp 23) (.tmp 25) (.const (.bool false))), []⟩,
      ⟨(some 27), .plain (.move (.tmp 26)), []⟩,
      ⟨(some 28), .plain (.move (.tmp 4)), [(27, true)]⟩,
      ⟨(some 29), .plain (.bin .eql (.tmp 28) (.const (.int .i64 (8)))), [(27, true)]⟩,
      ⟨(some 30), .plain (.pick (.tmp 27) (.tmp 29) (.const (.bool false))), []⟩,
      ⟨(some 31), .plain (.move (.tmp 30)), []⟩,
      ⟨(some 32), .call 14 [(.const (.string ⟨#[122]⟩))], [(31, true)]⟩,
      ⟨(some 33), .plain (.bin .eql (.tmp 32) (.const (.int .i64 (2)))), [(31, true)]⟩,
      ⟨(some 34), .plain (.pick (.tmp 31) (.tmp 33) (.const (.bool false))), []⟩,
      ⟨(some 35), .plain (.move (.tmp 34)), []⟩,
      ⟨(some 36), .call 10 [(.const (.string ⟨#[69, 117, 114, 111, 112, 101, 47, 80, 97, 114, 105, 115]⟩))], [(35, true)]⟩,
      ⟨(some 37), .plain (.pick (.tmp 35) (.tmp 36) (.const (.bool false))), []⟩,
      ⟨(some 38), .plain (.move (.tmp 37)), []⟩,
      ⟨(some 39), .call 12 [(.const (.string ⟨#[45]⟩))], [(38, true)]⟩,
      ⟨(some 40), .plain (.un .not (.tmp 39)), [(38, true)]⟩,
      ⟨(some 41), .plain (.pick (.tmp 38) (.tmp 40) (.const (.bool false))), []⟩,
      ⟨(some 0), .plain (.move (.tmp 41)), []⟩])
  (.ret))))⟩
theorem comp9 : compF Tryd.prog an9 Tryd.f9 = some ir9 := by kernel_rfl
theorem lps9 : loopsF Tryd.prog an9 Tryd.f9 = [] := by kernel_rfl
/-- noonmark/keyword.Zone -/
def an10 : An := (.s .z (.s (.s .z (.s (.s .z .z) .z)) (.s (.s .z (.b (.l 1000 [2, 9, 10, 11] (.s .z (.s (.s .z .z) (.s (.b (.s .z (.s .z (.s (.s .z .z) .z)))) .z)))))) (.s .z .z))))
def lb1000 : IC :=
  .seq (.region [⟨(some 12), .plain (.bin .lss (.tmp 11) (.tmp 10)), []⟩])
  (.seq (.cond (.tmp 12) (.skip)
    (.exit 0))
  (.seq (.block 1 (.seq (.region [⟨(some 13), .plain (.idx 1 (.tmp 9) (.tmp 11)), []⟩,
          ⟨(some 14), .plain (.load 1 false (.tmp 13)), []⟩,
          ⟨(some 4), .plain (.move (.tmp 14)), []⟩])
      (.seq (.region [⟨(some 15), .plain (.move (.tmp 4)), []⟩,
          ⟨(some 16), .call 27 [(.tmp 15), (.const (.string ⟨#[43, 45, 95]⟩)), (.const (.string ⟨#[45]⟩))], []⟩,
          ⟨(some 17), .plain (.un .not (.tmp 16)), []⟩])
      (.cond (.tmp 17) (.seq (.region [⟨(some 2), .plain (.move (.const (.bool false))), []⟩])
        (.ret))
      (.skip)))))
  (.region [⟨(some 18), .plain (.bin .add (.tmp 11) (.const (.int .i64 (1)))), []⟩,
    ⟨(some 11), .plain (.move (.tmp 18)), []⟩])))
def ir10 : IFun := ⟨19, [.tmp 2],
  .seq (.region [⟨(some 2), .plain (.move (.const (.bool false))), []⟩])
  (.seq (.seq (.region [⟨(some 5), .plain (.move (.tmp 0)), []⟩,
        ⟨(some 6), .plain (.len true (.tmp 5)), []⟩,
        ⟨(some 7), .plain (.bin .gtr (.tmp 6) (.const (.int .i64 (30)))), []⟩])
    (.cond (.tmp 7) (.seq (.region [⟨(some 2), .plain (.move (.const (.bool false))), []⟩])
      (.ret))
    (.skip)))
  (.seq (.seq (.region [⟨(some 8), .plain (.move (.tmp 0)), []⟩,
        ⟨(some 9), .call 26 [(.tmp 8), (.const (.string ⟨#[47]⟩))], []⟩,
        ⟨(some 10), .plain (.len false (.tmp 9)), []⟩,
        ⟨(some 11), .plain (.move (.const (.int .i64 (0)))), []⟩])
    (.block 0 (.loop 1000 [2, 9, 10, 11])))
  (.seq (.region [⟨(some 2), .plain (.move (.const (.bool true))), []⟩])
  (.ret))))⟩
theorem comp10 : compF Tryd.prog an10 Tryd.f10 = some ir10 := by kernel_rfl
theorem lps10 : loopsF Tryd.prog an10 Tryd.f10 = [(1000, [2, 9, 10, 11], some lb1000)] := by kernel_rfl
/-- noonmark/noonmarkref08.Zone -/
def an11 : An := (.s .z (.s (.s .z (.s (.s .z .z) .z)) (.s .z (.s (.s .z (.b (.l 1100 [0, 2, 3, 4] (.s (.s .z (.s .z .z)) (.s (.b (.s .z (.s (.s .z (.s (.s (.s .z (.s (.s .z .z) .z)) (.s .z .z)) .z)) (.s (.s .z (.s (.s .z .z) .z)) .z)))) .z))))) (.s .z .z)))))
def lb1100 : IC :=
  .seq (.seq (.region [⟨(some 14), .plain (.move (.tmp 4)), []⟩,
        ⟨(some 15), .plain (.move (.tmp 0)), []⟩,
        ⟨(some 16), .plain (.len true (.tmp 15)), []⟩,
        ⟨(some 17), .plain (.bin .lss (.tmp 14) (.tmp 16)), []⟩])
    (.cond (.tmp 17) (.skip)
    (.exit 0)))
  (.seq (.block 1 (.seq (.region [⟨(some 20), .plain (.move (.tmp 0)), []⟩,
          ⟨(some 21), .plain (.move (.tmp 4)), []⟩,
          ⟨(some 22), .plain (.byte (.tmp 20) (.tmp 21)), []⟩,
          ⟨(some 5), .plain (.move (.tmp 22)), []⟩])
      (.seq (.seq (.region [⟨(some 23), .plain (.move (.tmp 5)), []⟩,
            ⟨(some 24), .plain (.bin .eql (.tmp 23) (.const (.int .u8 (47)))), []⟩])
        (.cond (.tmp 24) (.seq (.seq (.region [⟨(some 25), .plain (.move (.tmp 3)), []⟩])
            (.cond (.tmp 25) (.seq (.region [⟨(some 2), .plain (.move (.const (.bool false))), []⟩])
              (.ret))
            (.skip)))
          (.seq (.region [⟨(some 3), .plain (.move (.const (.bool true))), []⟩])
          (.exit 1)))
        (.skip)))
      (.seq (.seq (.region [⟨(some 26), .plain (.move (.tmp 5)), []⟩,
            ⟨(some 27), .call 28 [(.tmp 26)], []⟩,
            ⟨(some 28), .plain (.un .not (.tmp 27)), []⟩,
            ⟨(some 29), .plain (.move (.tmp 28)), []⟩,
            ⟨(some 30), .plain (.move (.tmp 5)), [(29, true)]⟩,
            ⟨(some 31), .call 29 [(.tmp 30)], [(29, true)]⟩,
            ⟨(some 32), .plain (.un .not (.tmp 31)), [(29, true)]⟩,
            ⟨(some 33), .plain (.pick (.tmp 29) (.tmp 32) (.const (.bool false))), []⟩,
            ⟨(some 34), .plain (.move (.tmp 33)), []⟩,
            ⟨(some 35), .plain (.move (.tmp 5)), [(34, true)]⟩,
            ⟨(some 36), .plain (.bin .neq (.tmp 35) (.const (.int .u8 (43)))), [(34, true)]⟩,
            ⟨(some 37), .plain (.pick (.tmp 34) (.tmp 36) (.const (.bool false))), []⟩,
            ⟨(some 38), .plain (.move (.tmp 37)), []⟩,
            ⟨(some 39), .plain (.move (.tmp 5)), [(38, true)]⟩,
            ⟨(some 40), .plain (.bin .neq (.tmp 39) (.const (.int .u8 (95)))), [(38, true)]⟩,
            ⟨(some 41), .plain (.pick (.tmp 38) (.tmp 40) (.const (.bool false))), []⟩,
            ⟨(some 42), .plain (.move (.tmp 41)), []⟩,
            ⟨(some 43), .plain (.move (.tmp 5)), [(42, true)]⟩,
            ⟨(some 44), .plain (.bin .neq (.tmp 43) (.const (.int .u8 (45)))), [(42, true)]⟩,
            ⟨(some 45), .plain (.move (.tmp 44)), [(42, true)]⟩,
            ⟨(some 46), .plain (.move (.tmp 3)), [(42, true), (45, false)]⟩,
            ⟨(some 47), .plain (.pick (.tmp 45) (.const (.bool true)) (.tmp 46)), [(42, true)]⟩,
            ⟨(some 48), .plain (.pick (.tmp 42) (.tmp 47) (.const (.bool false))), []⟩])
        (.cond (.tmp 48) (.seq (.region [⟨(some 2), .plain (.move (.const (.bool false))), []⟩])
          (.ret))
        (.skip)))
      (.region [⟨(some 3), .plain (.move (.const (.bool false))), []⟩])))))
  (.region [⟨(some 18), .plain (.move (.tmp 4)), []⟩,
    ⟨(some 19), .plain (.bin .add (.tmp 18) (.const (.int .i64 (1)))), []⟩,
    ⟨(some 4), .plain (.move (.tmp 19)), []⟩]))
def ir11 : IFun := ⟨51, [.tmp 2],
  .seq (.region [⟨(some 2), .plain (.move (.const (.bool false))), []⟩])
  (.seq (.seq (.region [⟨(some 6), .plain (.move (.tmp 0)), []⟩,
        ⟨(some 7), .plain (.len true (.tmp 6)), []⟩,
        ⟨(some 8), .plain (.bin .lss (.tmp 7) (.const (.int .i64 (1)))), []⟩,
        ⟨(some 9), .plain (.move (.tmp 8)), []⟩,
        ⟨(some 10), .plain (.move (.tmp 0)), [(9, false)]⟩,
        ⟨(some 11), .plain (.len true (.tmp 10)), [(9, false)]⟩,
        ⟨(some 12), .plain (.bin .gtr (.tmp 11) (.const (.int .i64 (30)))), [(9, false)]⟩,
        ⟨(some 13), .plain (.pick (.tmp 9) (.const (.bool true)) (.tmp 12)), []⟩])
    (.cond (.tmp 13) (.seq (.region [⟨(some 2), .plain (.move (.const (.bool false))), []⟩])
      (.ret))
    (.skip)))
  (.seq (.region [⟨(some 3), .plain (.move (.const (.bool true))), []⟩])
  (.seq (.seq (.region [⟨(some 4), .plain (.move (.const (.int .i64 (0)))), []⟩])
    (.block 0 (.loop 1100 [0, 2, 3, 4])))
  (.seq (.region [⟨(some 49), .plain (.move (.tmp 3)), []⟩,
      ⟨(some 50), .plain (.un .not (.tmp 49)), []⟩,
      ⟨(some 2), .plain (.move (.tmp 50)), []⟩])
  (.ret)))))⟩
theorem comp11 : compF Tryd.prog an11 Tryd.f11 = some ir11 := by kernel_rfl
theorem lps11 : loopsF Tryd.prog an11 Tryd.f11 = [(1100, [0, 2, 3, 4], some lb1100)] := by kernel_rfl
/-- noonmark/keyword.Rule -/
def an12 : An := (.s .z (.s .z .z))
def ir12 : IFun := ⟨10, [.tmp 2],
  .seq (.region [⟨(some 2), .plain (.move (.const (.bool false))), []⟩])
  (.seq (.region [⟨(some 3), .plain (.move (.tmp 0)), []⟩,
      ⟨(some 4), .plain (.len true (.tmp 3)), []⟩,
      ⟨(some 5), .plain (.bin .leq (.tmp 4) (.const (.int .i64 (30)))), []⟩,
      ⟨(some 6), .plain (.move (.tmp 5)), []⟩,
      ⟨(some 7), .plain (.move (.tmp 0)), [(6, true)]⟩,
      ⟨(some 8), .call 27 [(.tmp 7), (.const (.string ⟨#[45, 95]⟩)), (.const (.string ⟨#[45, 48, 49, 50, 51, 52, 53, 54, 55, 56, 57]⟩))], [(6, true)]⟩,
      ⟨(some 9), .plain (.pick (.tmp 6) (.tmp 8) (.const (.bool false))), []⟩,
      ⟨(some 2), .plain (.move (.tmp 9)), []⟩])
  (.ret))⟩
theorem comp12 : compF Tryd.prog an12 Tryd.f12 = some ir12 := by kernel_rfl
theorem lps12 : loopsF Tryd.prog an12 Tryd.f12 = [] := by kernel_rfl
/-- noonmark/noonmarkref08.Rule -/
def an13 : An := (.s .z (.s (.s .z (.s (.s .z .z) .z)) (.s (.s .z (.b (.l 1300 [0, 2, 3] (.s (.s .z (.s .z .z)) (.s (.b (.s .z (.s (.s .z .z) .z))) .z))))) (.s .z .z))))
def lb1300 : IC :=
  .seq (.seq (.region [⟨(some 23), .plain (.move (.tmp 3)), []⟩,
        ⟨(some 24), .plain (.move (.tmp 0)), []⟩,
        ⟨(some 25), .plain (.len true (.tmp 24)), []⟩,
        ⟨(some 26), .plain (.bin .lss (.tmp 23) (.tmp 25)), []⟩])
    (.cond (.tmp 26) (.skip)
    (.exit 0)))
  (.seq (.block 1 (.seq (.region [⟨(some 29), .plain (.move (.tmp 0)), []⟩,
          ⟨(some 30), .plain (.move (.tmp 3)), []⟩,
          ⟨(some 31), .plain (.byte (.tmp 29) (.tmp 30)), []⟩,
          ⟨(some 32), .call 28 [(.tmp 31)], []⟩,
          ⟨(some 33), .plain (.un .not (.tmp 32)), []⟩,
          ⟨(some 34), .plain (.move (.tmp 33)), []⟩,
          ⟨(some 35), .plain (.move (.tmp 0)), [(34, true)]⟩,
          ⟨(some 36), .plain (.move (.tmp 3)), [(34, true)]⟩,
          ⟨(some 37), .plain (.byte (.tmp 35) (.tmp 36)), [(34, true)]⟩,
          ⟨(some 38), .call 29 [(.tmp 37)], [(34, true)]⟩,
          ⟨(some 39), .plain (.un .not (.tmp 38)), [(34, true)]⟩,
          ⟨(some 40), .plain (.pick (.tmp 34) (.tmp 39) (.const (.bool false))), []⟩,
          ⟨(some 41), .plain (.move (.tmp 40)), []⟩,
          ⟨(some 42), .plain (.move (.tmp 0)), [(41, true)]⟩,
          ⟨(some 43), .plain (.move (.tmp 3)), [(41, true)]⟩,
          ⟨(some 44), .plain (.byte (.tmp 42) (.tmp 43)), [(41, true)]⟩,
          ⟨(some 45), .plain (.bin .neq (.tmp 44) (.const (.int .u8 (45)))), [(41, true)]⟩,
          ⟨(some 46), .plain (.pick (.tmp 41) (.tmp 45) (.const (.bool false))), []⟩,
          ⟨(some 47), .plain (.move (.tmp 46)), []⟩,
          ⟨(some 48), .plain (.move (.tmp 0)), [(47, true)]⟩,
          ⟨(some 49), .plain (.move (.tmp 3)), [(47, true)]⟩,
          ⟨(some 50), .plain (.byte (.tmp 48) (.tmp 49)), [(47, true)]⟩,
          ⟨(some 51), .plain (.bin .neq (.tmp 50) (.const (.int .u8 (95)))), [(47, true)]⟩,
          ⟨(some 52), .plain (.pick (.tmp 47) (.tmp 51) (.const (.bool false))), []⟩])
      (.cond (.tmp 52) (.seq (.region [⟨(some 2), .plain (.move (.const (.bool false))), []⟩])
        (.ret))
      (.skip))))
  (.region [⟨(some 27), .plain (.move (.tmp 3)), []⟩,
    ⟨(some 28), .plain (.bin .add (.tmp 27) (.const (.int .i64 (1)))), []⟩,
    ⟨(some 3), .plain (.move (.tmp 28)), []⟩]))
def ir13 : IFun := ⟨53, [.tmp 2],
  .seq (.region [⟨(some 2), .plain (.move (.const (.bool false))), []⟩])
  (.seq (.seq (.region [⟨(some 4), .plain (.move (.tmp 0)), []⟩,
        ⟨(some 5), .plain (.len true (.tmp 4)), []⟩,
        ⟨(some 6), .plain (.bin .lss (.tmp 5) (.const (.int .i64 (1)))), []⟩,
        ⟨(some 7), .plain (.move (.tmp 6)), []⟩,
        ⟨(some 8), .plain (.move (.tmp 0)), [(7, false)]⟩,
        ⟨(some 9), .plain (.len true (.tmp 8)), [(7, false)]⟩,
        ⟨(some 10), .plain (.bin .gtr (.tmp 9) (.const (.int .i64 (30)))), [(7, false)]⟩,
        ⟨(some 11), .plain (.pick (.tmp 7) (.const (.bool true)) (.tmp 10)), []⟩,
        ⟨(some 12), .plain (.move (.tmp 11)), []⟩,
        ⟨(some 13), .plain (.move (.tmp 0)), [(12, false)]⟩,
        ⟨(some 14), .plain (.byte (.tmp 13) (.const (.int .i64 (0)))), [(12, false)]⟩,
        ⟨(some 15), .call 28 [(.tmp 14)], [(12, false)]⟩,
        ⟨(some 16), .plain (.un .not (.tmp 15)), [(12, false)]⟩,
        ⟨(some 17), .plain (.move (.tmp 16)), [(12, false)]⟩,
        ⟨(some 18), .plain (.move (.tmp 0)), [(12, false), (17, true)]⟩,
        ⟨(some 19), .plain (.byte (.tmp 18) (.const (.int .i64 (0)))), [(12, false), (17, true)]⟩,
        ⟨(some 20), .plain (.bin .neq (.tmp 19) (.const (.int .u8 (95)))), [(12, false), (17, true)]⟩,
        ⟨(some 21), .plain (.pick (.tmp 17) (.tmp 20) (.const (.bool false))), [(12, false)]⟩,
        ⟨(some 22), .plain (.pick (.tmp 12) (.const (.bool true)) (.tmp 21)), []⟩])
    (.cond (.tmp 22) (.seq (.region [⟨(some 2), .plain (.move (.const (.bool false))), []⟩])
      (.ret))
    (.skip)))
  (.seq (.seq (.region [⟨(some 3), .plain (.move (.const (.int .i64 (1)))), []⟩])
    (.block 0 (.loop 1300 [0, 2, 3])))
  (.seq (.region [⟨(some 2), .plain (.move (.const (.bool true))), []⟩])
  (.ret))))⟩
theorem comp13 : compF Tryd.prog an13 Tryd.f13 = some ir13 := by kernel_rfl
theorem lps13 : loopsF Tryd.prog an13 Tryd.f13 = [(1300, [0, 2, 3], some lb1300)] := by kernel_rfl
/-- noonmark/keyword.Head -/
def an14 : An := (.s .z (.s .z .z))
def ir14 : IFun := ⟨6, [.tmp 2],
  .seq (.region [⟨(some 2), .plain (.move (.const (.int .i64 (0)))), []⟩])
  (.seq (.region [⟨(some 3), .plain (.move (.tmp 0)), []⟩,
      ⟨(some 4), .plain (.lit 1 3 [(.string ⟨#[]⟩)] [(0, (.const (.string ⟨#[114, 117, 108, 101]⟩))), (1, (.const (.string ⟨#[122, 111, 110, 101]⟩))), (2, (.const (.string ⟨#[108, 105, 110, 107]⟩)))]), []⟩,
      ⟨(some 5), .call 30 [(.tmp 3), (.tmp 4)], []⟩,
      ⟨(some 2), .plain (.move (.tmp 5)), []⟩])
  (.ret))⟩
theorem comp14 : compF Tryd.prog an14 Tryd.f14 = some ir14 := by kernel_rfl
theorem lps14 : loopsF Tryd.prog an14 Tryd.f14 = [] := by kernel_rfl
/-- noonmark/noonmarkref08.Head -/
def an15 : An := (.s .z (.s .z .z))
def ir15 : IFun := ⟨6, [.tmp 2],
  .seq (.region [⟨(some 2), .plain (.move (.const (.int .i64 (0)))), []⟩])
  (.seq (.region [⟨(some 3), .plain (.move (.tmp 0)), []⟩,
      ⟨(some 4), .plain (.lit 1 3 [(.string ⟨#[]⟩)] [(0, (.const (.string ⟨#[114, 117, 108, 101]⟩))), (1, (.const (.string ⟨#[122, 111, 110, 101]⟩))), (2, (.const (.string ⟨#[108, 105, 110, 107]⟩)))]), []⟩,
      ⟨(some 5), .call 31 [(.tmp 3), (.tmp 4)], []⟩,
      ⟨(some 2), .plain (.move (.tmp 5)), []⟩])
  (.ret))⟩
theorem comp15 : compF Tryd.prog an15 Tryd.f15 = some ir15 := by kernel_rfl
theorem lps15 : loopsF Tryd.prog an15 Tryd.f15 = [] := by kernel_rfl
/-- noonmark/keyword.Month -/
def an16 : An := (.s .z (.s .z .z))
def ir16 : IFun := ⟨6, [.tmp 2],
  .seq (.region [⟨(some 2), .plain (.move (.const (.int .i64 (0)))), []⟩])
  (.seq (.region [⟨(some 3), .plain (.move (.tmp 0)), []⟩,
      ⟨(some 4), .call 32 [], []⟩,
      ⟨(some 5), .call 30 [(.tmp 3), (.tmp 4)], []⟩,
      ⟨(some 2), .plain (.move (.tmp 5)), []⟩])
  (.ret))⟩
theorem comp16 : compF Tryd.prog an16 Tryd.f16 = some ir16 := by kernel_rfl
theorem lps16 : loopsF Tryd.prog an16 Tryd.f16 = [] := by kernel_rfl
/-- noonmark/noonmarkref08.Month -/
def an17 : An := (.s .z (.s .z .z))
def ir17 : IFun := ⟨6, [.tmp 2],
  .seq (.region [⟨(some 2), .plain (.move (.const (.int .i64 (0)))), []⟩])
  (.seq (.region [⟨(some 3), .plain (.move (.tmp 0)), []⟩,
      ⟨(some 4), .call 33 [], []⟩,
      ⟨(some 5), .call 31 [(.tmp 3), (.tmp 4)], []⟩,
      ⟨(some 2), .plain (.move (.tmp 5)), []⟩])
  (.ret))⟩
theorem comp17 : compF Tryd.prog an17 Tryd.f17 = some ir17 := by kernel_rfl
theorem lps17 : loopsF Tryd.prog an17 Tryd.f17 = [] := by kernel_rfl
/-- noonmark/keyword.ShowMonth -/
def an18 : An := (.s .z (.s (.s .z (.s (.s .z .z) .z)) (.s .z (.s .z (.s .z .z)))))
def ir18 : IFun := ⟨24, [.tmp 2],
  .seq (.region [⟨(some 2), .plain (.move (.const (.string ⟨#[]⟩))), []⟩])
  (.seq (.seq (.region [⟨(some 4), .plain (.move (.tmp 0)), []⟩,
        ⟨(some 5), .plain (.bin .lss (.tmp 4) (.const (.int .i64 (1)))), []⟩,
        ⟨(some 6), .plain (.move (.tmp 5)), []⟩,
        ⟨(some 7), .plain (.move (.tmp 0)), [(6, false)]⟩,
        ⟨(some 8), .plain (.bin .gtr (.tmp 7) (.const (.int .i64 (12)))), [(6, false)]⟩,
        ⟨(some 9), .plain (.pick (.tmp 6) (.const (.bool true)) (.tmp 8)), []⟩])
    (.cond (.tmp 9) (.seq (.region [⟨(some 2), .plain (.move (.const (.string ⟨#[]⟩))), []⟩])
      (.ret))
    (.skip)))
  (.seq (.region [⟨(some 10), .call 32 [], []⟩,
      ⟨(some 11), .plain (.move (.tmp 0)), []⟩,
      ⟨(some 12), .plain (.bin .sub (.tmp 11) (.const (.int .i64 (1)))), []⟩,
      ⟨(some 13), .plain (.idx 1 (.tmp 10) (.tmp 12)), []⟩,
      ⟨(some 14), .plain (.load 1 false (.tmp 13)), []⟩,
      ⟨(some 15), .plain (.cutStr (.tmp 14) none (some (.const (.int .i64 (3))))), []⟩,
      ⟨(some 16), .plain (.toBytes (.tmp 15)), []⟩,
      ⟨(some 3), .plain (.move (.tmp 16)), []⟩])
  (.seq (.region [⟨(some 17), .plain (.move (.tmp 3)), []⟩,
      ⟨(some 18), .plain (.idx 1 (.tmp 17) (.const (.int .i64 (0)))), []⟩,
      ⟨(some 19), .plain (.load 1 false (.tmp 18)), []⟩,
      ⟨(some 20), .plain (.bin .andNot (.tmp 19) (.const (.int .u8 (32)))), []⟩,
      ⟨(some 21), .plain (.idx 1 (.tmp 17) (.const (.int .i64 (0)))), []⟩,
      ⟨none, .plain (.store 1 (.tmp 21) (.tmp 20)), []⟩])
  (.seq (.region [⟨(some 22), .plain (.move (.tmp 3)), []⟩,
      ⟨(some 23), .plain (.toStr (.tmp 22)), []⟩,
      ⟨(some 2), .plain (.move (.tmp 23)), []⟩])
  (.ret)))))⟩
theorem comp18 : compF Tryd.prog an18 Tryd.f18 = some ir18 := by kernel_rfl
theorem lps18 : loopsF Tryd.prog an18 Tryd.f18 = [] := by kernel_rfl
/-- noonmark/noonmarkref08.ShowMonth -/
def an19 : An := (.s .z (.s (.s .z (.s (.s .z .z) .z)) (.s .z (.s .z .z))))
def ir19 : IFun := ⟨23, [.tmp 2],
  .seq (.region [⟨(some 2), .plain (.move (.const (.string ⟨#[]⟩))), []⟩])
  (.seq (.seq (.region [⟨(some 4), .plain (.move (.tmp 0)), []⟩,
        ⟨(some 5), .plain (.bin .lss (.tmp 4) (.const (.int .i64 (1)))), []⟩,
        ⟨(some 6), .plain (.move (.tmp 5)), []⟩,
        ⟨(some 7), .plain (.move (.tmp 0)), [(6, false)]⟩,
        ⟨(some 8), .plain (.bin .gtr (.tmp 7) (.const (.int .i64 (12)))), [(6, false)]⟩,
        ⟨(some 9), .plain (.pick (.tmp 6) (.const (.bool true)) (.tmp 8)), []⟩])
    (.cond (.tmp 9) (.seq (.region [⟨(some 2), .plain (.move (.const (.string ⟨#[]⟩))), []⟩])
      (.ret))
    (.skip)))
  (.seq (.region [⟨(some 10), .call 33 [], []⟩,
      ⟨(some 11), .plain (.move (.tmp 0)), []⟩,
      ⟨(some 12), .plain (.bin .sub (.tmp 11) (.const (.int .i64 (1)))), []⟩,
      ⟨(some 13), .plain (.idx 1 (.tmp 10) (.tmp 12)), []⟩,
      ⟨(some 14), .plain (.load 1 false (.tmp 13)), []⟩,
      ⟨(some 3), .plain (.move (.tmp 14)), []⟩])
  (.seq (.draws [(⟨(some 15), .plain (.move (.tmp 3)), []⟩, [3], .pure),
      (⟨(some 16), .plain (.byte (.tmp 15) (.const (.int .i64 (0)))), []⟩, [15], .pure),
      (⟨(some 17), .plain (.bin .sub (.tmp 16) (.const (.int .u8 (32)))), []⟩, [16], .pure),
      (⟨(some 18), .plain (.lit 1 1 [(.int .u8 (0))] [(0, (.tmp 17))]), []⟩, [17], .quiet),
      (⟨(some 19), .plain (.toStr (.tmp 18)), []⟩, [18], .quiet),
      (⟨(some 20), .plain (.move (.tmp 3)), []⟩, [3], .pure),
      (⟨(some 21), .plain (.cutStr (.tmp 20) (some (.const (.int .i64 (1)))) (some (.const (.int .i64 (3))))), []⟩, [20], .pure),
      (⟨(some 22), .plain (.bin .add (.tmp 19) (.tmp 21)), []⟩, [19, 21], .pure),
      (⟨(some 2), .plain (.move (.tmp 22)), []⟩, [22], .pure)])
  (.ret))))⟩
theorem comp19 : compF Tryd.prog an19 Tryd.f19 = some ir19 := by kernel_rfl
theorem lps19 : loopsF Tryd.prog an19 Tryd.f19 = [] := by kernel_rfl
/-- noonmark/keyword.From -/
def an20 : An := (.s .z (.s .z (.s (.s .z (.s (.s .z .z) .z)) (.s .z .z))))
def ir20 : IFun := ⟨23, [.tmp 2, .tmp 3],
  .seq (.region [⟨(some 2), .plain (.move (.const (.int .i64 (0)))), []⟩,
      ⟨(some 3), .plain (.move (.const (.int .i64 (0)))), []⟩])
  (.seq (.region [⟨(some 7), .plain (.move (.tmp 0)), []⟩,
      ⟨(some 8), .call 34 [(.tmp 7)], []⟩,
      ⟨(some 6), .plain (.move (.tmp 8)), []⟩,
      ⟨(some 9), .plain (.extract 0 (.tmp 6)), []⟩,
      ⟨(some 10), .plain (.extract 1 (.tmp 6)), []⟩,
      ⟨(some 4), .plain (.move (.tmp 9)), []⟩,
      ⟨(some 5), .plain (.move (.tmp 10)), []⟩])
  (.seq (.seq (.region [⟨(some 11), .plain (.move (.tmp 5)), []⟩,
        ⟨(some 12), .plain (.bin .neq (.tmp 11) (.const (.int .i64 (0)))), []⟩,
        ⟨(some 13), .plain (.move (.tmp 12)), []⟩,
        ⟨(some 14), .plain (.move (.tmp 4)), [(13, false)]⟩,
        ⟨(some 15), .plain (.bin .gtr (.tmp 14) (.const (.int .i64 (9999)))), [(13, false)]⟩,
        ⟨(some 16), .plain (.pick (.tmp 13) (.const (.bool true)) (.tmp 15)), []⟩,
        ⟨(some 17), .plain (.move (.tmp 16)), []⟩,
        ⟨(some 18), .plain (.move (.tmp 4)), [(17, false)]⟩,
        ⟨(some 19), .call 35 [(.tmp 18)], [(17, false)]⟩,
        ⟨(some 20), .plain (.un .not (.tmp 19)), [(17, false)]⟩,
        ⟨(some 21), .plain (.pick (.tmp 17) (.const (.bool true)) (.tmp 20)), []⟩])
    (.cond (.tmp 21) (.seq (.region [⟨(some 2), .plain (.move (.const (.int .i64 (0)))), []⟩,
          ⟨(some 3), .plain (.move (.const (.int .i64 (8)))), []⟩])
      (.ret))
    (.skip)))
  (.seq (.region [⟨(some 22), .plain (.move (.tmp 4)), []⟩,
      ⟨(some 2), .plain (.move (.tmp 22)), []⟩,
      ⟨(some 3), .plain (.move (.const (.int .i64 (0)))), []⟩])
  (.ret))))⟩
theorem comp20 : compF Tryd.prog an20 Tryd.f20 = some ir20 := by kernel_rfl
theorem lps20 : loopsF Tryd.prog an20 Tryd.f20 = [] := by kernel_rfl
/-- noonmark/noonmarkref08.From -/
def an21 : An := (.s .z (.s .z (.s (.s .z (.s (.s .z .z) .z)) (.s .z .z))))
def ir21 : IFun := ⟨22, [.tmp 2, .tmp 3],
  .seq (.region [⟨(some 2), .plain (.move (.const (.int .i64 (0)))), []⟩,
      ⟨(some 3), .plain (.move (.const (.int .i64 (0)))), []⟩])
  (.seq (.region [⟨(some 7), .plain (.move (.tmp 0)), []⟩,
      ⟨(some 8), .call 36 [(.tmp 7)], []⟩,
      ⟨(some 6), .plain (.move (.tmp 8)), []⟩,
      ⟨(some 9), .plain (.extract 0 (.tmp 6)), []⟩,
      ⟨(some 10), .plain (.extract 1 (.tmp 6)), []⟩,
      ⟨(some 4), .plain (.move (.tmp 9)), []⟩,
      ⟨(some 5), .plain (.move (.tmp 10)), []⟩])
  (.seq (.seq (.region [⟨(some 11), .plain (.move (.tmp 5)), []⟩,
        ⟨(some 12), .plain (.bin .neq (.tmp 11) (.const (.int .i64 (0)))), []⟩,
        ⟨(some 13), .plain (.move (.tmp 12)), []⟩,
        ⟨(some 14), .plain (.move (.tmp 4)), [(13, false)]⟩,
        ⟨(some 15), .plain (.bin .lss (.tmp 14) (.const (.int .i64 (1)))), [(13, false)]⟩,
        ⟨(some 16), .plain (.pick (.tmp 13) (.const (.bool true)) (.tmp 15)), []⟩,
        ⟨(some 17), .plain (.move (.tmp 16)), []⟩,
        ⟨(some 18), .plain (.move (.tmp 4)), [(17, false)]⟩,
        ⟨(some 19), .plain (.bin .gtr (.tmp 18) (.const (.int .i64 (9999)))), [(17, false)]⟩,
        ⟨(some 20), .plain (.pick (.tmp 17) (.const (.bool true)) (.tmp 19)), []⟩])
    (.cond (.tmp 20) (.seq (.region [⟨(some 2), .plain (.move (.const (.int .i64 (0)))), []⟩,
          ⟨(some 3), .plain (.move (.const (.int .i64 (8)))), []⟩])
      (.ret))
    (.skip)))
  (.seq (.region [⟨(some 21), .plain (.move (.tmp 4)), []⟩,
      ⟨(some 2), .plain (.move (.tmp 21)), []⟩,
      ⟨(some 3), .plain (.move (.const (.int .i64 (0)))), []⟩])
  (.ret))))⟩
theorem comp21 : compF Tryd.prog an21 Tryd.f21 = some ir21 := by kernel_rfl
theorem lps21 : loopsF Tryd.prog an21 Tryd.f21 = [] := by kernel_rfl
/-- noonmark/keyword.To -/
def an22 : An := (.s .z (.s (.s .z (.b (.s .z (.s (.s .z .z) (.s .z (.s (.s .z .z) .z)))))) (.s .z (.s (.s .z (.s (.s .z .z) .z)) (.s .z .z)))))
def ir22 : IFun := ⟨30, [.tmp 4, .tmp 5],
  .seq (.region [⟨(some 4), .plain (.move (.const (.int .i64 (0)))), []⟩,
      ⟨(some 5), .plain (.move (.const (.int .i64 (0)))), []⟩])
  (.seq (.seq (.region [⟨(some 8), .plain (.move (.tmp 0)), []⟩,
        ⟨(some 9), .plain (.lit 1 3 [(.string ⟨#[]⟩)] [(0, (.const (.string ⟨#[111, 110, 108, 121]⟩))), (1, (.const (.string ⟨#[109, 97, 120, 105, 109, 117, 109]⟩))), (2, (.const (.string ⟨#[109, 105, 110, 105, 109, 117, 109]⟩)))]), []⟩,
        ⟨(some 10), .call 30 [(.tmp 8), (.tmp 9)], []⟩])
    (.block 0 (.seq (.region [⟨(some 12), .plain (.bin .eql (.tmp 10) (.const (.int .i64 (1)))), []⟩,
          ⟨(some 11), .plain (.move (.tmp 12)), []⟩])
      (.cond (.tmp 11) (.seq (.region [⟨(some 13), .plain (.move (.tmp 1)), []⟩,
            ⟨(some 4), .plain (.move (.tmp 13)), []⟩,
            ⟨(some 5), .plain (.move (.const (.int .i64 (0)))), []⟩])
        (.ret))
      (.seq (.region [⟨(some 15), .plain (.bin .eql (.tmp 10) (.const (.int .i64 (2)))), []⟩,
            ⟨(some 14), .plain (.move (.tmp 15)), []⟩])
        (.cond (.tmp 14) (.seq (.region [⟨(some 4), .plain (.move (.const (.int .i64 (10000)))), []⟩,
              ⟨(some 5), .plain (.move (.const (.int .i64 (0)))), []⟩])
          (.ret))
        (.skip)))))))
  (.seq (.region [⟨(some 17), .plain (.move (.tmp 0)), []⟩,
      ⟨(some 18), .call 20 [(.tmp 17)], []⟩,
      ⟨(some 16), .plain (.move (.tmp 18)), []⟩,
      ⟨(some 19), .plain (.extract 0 (.tmp 16)), []⟩,
      ⟨(some 20), .plain (.extract 1 (.tmp 16)), []⟩,
      ⟨(some 6), .plain (.move (.tmp 19)), []⟩,
      ⟨(some 7), .plain (.move (.tmp 20)), []⟩])
  (.seq (.seq (.region [⟨(some 21), .plain (.move (.tmp 7)), []⟩,
        ⟨(some 22), .plain (.bin .eql (.tmp 21) (.const (.int .i64 (0)))), []⟩,
        ⟨(some 23), .plain (.move (.tmp 22)), []⟩,
        ⟨(some 24), .plain (.move (.tmp 6)), [(23, true)]⟩,
        ⟨(some 25), .plain (.move (.tmp 1)), [(23, true)]⟩,
        ⟨(some 26), .plain (.bin .lss (.tmp 24) (.tmp 25)), [(23, true)]⟩,
        ⟨(some 27), .plain (.pick (.tmp 23) (.tmp 26) (.const (.bool false))), []⟩])
    (.cond (.tmp 27) (.seq (.region [⟨(some 4), .plain (.move (.const (.int .i64 (0)))), []⟩,
          ⟨(some 5), .plain (.move (.const (.int .i64 (8)))), []⟩])
      (.ret))
    (.skip)))
  (.seq (.region [⟨(some 28), .plain (.move (.tmp 6)), []⟩,
      ⟨(some 29), .plain (.move (.tmp 7)), []⟩,
      ⟨(some 4), .plain (.move (.tmp 28)), []⟩,
      ⟨(some 5), .plain (.move (.tmp 29)), []⟩])
  (.ret)))))⟩
theorem comp22 : compF Tryd.prog an22 Tryd.f22 = some ir22 := by kernel_rfl
theorem lps22 : loopsF Tryd.prog an22 Tryd.f22 = [] := by kernel_rfl
/-- noonmark/noonmarkref08.To -/
def an23 : An := (.s .z (.s (.s .z (.b (.s .z (.s (.s .z .z) (.s .z (.s (.s .z .z) .z)))))) (.s .z (.s (.s .z (.s (.s .z .z) .z)) (.s .z .z)))))
def ir23 : IFun := ⟨29, [.tmp 4, .tmp 5],
  .seq (.region [⟨(some 4), .plain (.move (.const (.int .i64 (0)))), []⟩,
      ⟨(some 5), .plain (.move (.const (.int .i64 (0)))), []⟩])
  (.seq (.seq (.region [⟨(some 8), .plain (.move (.tmp 0)), []⟩,
        ⟨(some 9), .plain (.lit 1 3 [(.string ⟨#[]⟩)] [(0, (.const (.string ⟨#[111, 110, 108, 121]⟩))), (1, (.const (.string ⟨#[109, 97, 120, 105, 109, 117, 109]⟩))), (2, (.const (.string ⟨#[109, 105, 110, 105, 109, 117, 109]⟩)))]), []⟩,
        ⟨(some 10), .call 31 [(.tmp 8), (.tmp 9)], []⟩])
    (.block 0 (.seq (.region [⟨(some 12), .plain (.bin .eql (.tmp 10) (.const (.int .i64 (1)))), []⟩,
          ⟨(some 11), .plain (.move (.tmp 12)), []⟩])
      (.cond (.tmp 11) (.seq (.region [⟨(some 13), .plain (.move (.tmp 1)), []⟩,
            ⟨(some 4), .plain (.move (.tmp 13)), []⟩,
            ⟨(some 5), .plain (.move (.const (.int .i64 (0)))), []⟩])
        (.ret))
      (.seq (.region [⟨(some 15), .plain (.bin .eql (.tmp 10) (.const (.int .i64 (2)))), []⟩,
            ⟨(some 14), .plain (.move (.tmp 15)), []⟩])
        (.cond (.tmp 14) (.seq (.region [⟨(some 4), .plain (.move (.const (.int .i64 (10000)))), []⟩,
              ⟨(some 5), .plain (.move (.const (.int .i64 (0)))), []⟩])
          (.ret))
        (.skip)))))))
  (.seq (.region [⟨(some 17), .plain (.move (.tmp 0)), []⟩,
      ⟨(some 18), .call 21 [(.tmp 17)], []⟩,
      ⟨(some 16), .plain (.move (.tmp 18)), []⟩,
      ⟨(some 19), .plain (.extract 0 (.tmp 16)), []⟩,
      ⟨(some 20), .plain (.extract 1 (.tmp 16)), []⟩,
      ⟨(some 6), .plain (.move (.tmp 19)), []⟩,
      ⟨(some 7), .plain (.move (.tmp 20)), []⟩])
  (.seq (.seq (.region [⟨(some 21), .plain (.move (.tmp 7)), []⟩,
        ⟨(some 22), .plain (.bin .neq (.tmp 21) (.const (.int .i64 (0)))), []⟩,
        ⟨(some 23), .plain (.move (.tmp 22)), []⟩,
        ⟨(some 24), .plain (.move (.tmp 6)), [(23, false)]⟩,
        ⟨(some 25), .plain (.move (.tmp 1)), [(23, false)]⟩,
        ⟨(some 26), .plain (.bin .lss (.tmp 24) (.tmp 25)), [(23, false)]⟩,
        ⟨(some 27), .plain (.pick (.tmp 23) (.const (.bool true)) (.tmp 26)), []⟩])
    (.cond (.tmp 27) (.seq (.region [⟨(some 4), .plain (.move (.const (.int .i64 (0)))), []⟩,
          ⟨(some 5), .plain (.move (.const (.int .i64 (8)))), []⟩])
      (.ret))
    (.skip)))
  (.seq (.region [⟨(some 28), .plain (.move (.tmp 6)), []⟩,
      ⟨(some 4), .plain (.move (.tmp 28)), []⟩,
      ⟨(some 5), .plain (.move (.const (.int .i64 (0)))), []⟩])
  (.ret)))))⟩
theorem comp23 : compF Tryd.prog an23 Tryd.f23 = some ir23 := by kernel_rfl
theorem lps23 : loopsF Tryd.prog an23 Tryd.f23 = [] := by kernel_rfl
/-- noonmark/keyword.ShowTo -/
def an24 : An := (.s .z (.s (.b (.s .z (.s (.s .z .z) (.s .z (.s (.s .z .z) (.k [0, 1, 13] (.s .z (.s .z .z)) (.s (.s .z .z) (.s .z (.s (.s .z .z) .z))))))))) (.s .z .z)))
def ir24 : IFun := ⟨26, [.tmp 4, .tmp 5],
  .seq (.region [⟨(some 4), .plain (.move (.const (.string ⟨#[]⟩))), []⟩,
      ⟨(some 5), .plain (.move (.const (.int .i64 (0)))), []⟩])
  (.seq (.block 0 (.seq (.region [⟨(some 7), .plain (.move (.tmp 0)), []⟩,
          ⟨(some 8), .call 35 [(.tmp 7)], []⟩,
          ⟨(some 9), .plain (.un .not (.tmp 8)), []⟩,
          ⟨(some 6), .plain (.move (.tmp 9)), []⟩])
      (.cond (.tmp 6) (.seq (.region [⟨(some 4), .plain (.move (.const (.string ⟨#[]⟩))), []⟩,
            ⟨(some 5), .plain (.move (.const (.int .i64 (8)))), []⟩])
        (.ret))
      (.seq (.region [⟨(some 11), .plain (.move (.tmp 1)), []⟩,
            ⟨(some 12), .plain (.bin .eql (.tmp 11) (.const (.int .i64 (10000)))), []⟩,
            ⟨(some 10), .plain (.move (.tmp 12)), []⟩])
        (.cond (.tmp 10) (.seq (.region [⟨(some 4), .plain (.move (.const (.string ⟨#[109, 97, 120]⟩))), []⟩,
              ⟨(some 5), .plain (.move (.const (.int .i64 (0)))), []⟩])
          (.ret))
        (.cut [0, 1, 13] (.seq (.region [⟨(some 14), .plain (.move (.tmp 1)), []⟩,
                ⟨(some 15), .plain (.move (.tmp 0)), []⟩,
                ⟨(some 16), .plain (.bin .lss (.tmp 14) (.tmp 15)), []⟩,
                ⟨(some 13), .plain (.move (.tmp 16)), []⟩])
            (.cond (.tmp 13) (.skip)
            (.region [⟨(some 17), .plain (.move (.tmp 1)), []⟩,
                ⟨(some 18), .call 35 [(.tmp 17)], []⟩,
                ⟨(some 19), .plain (.un .not (.tmp 18)), []⟩,
                ⟨(some 13), .plain (.move (.tmp 19)), []⟩])))
          (.cond (.tmp 13) (.seq (.region [⟨(some 4), .plain (.move (.const (.string ⟨#[]⟩))), []⟩,
                ⟨(some 5), .plain (.move (.const (.int .i64 (8)))), []⟩])
            (.ret))
          (.seq (.region [⟨(some 21), .plain (.move (.tmp 1)), []⟩,
                ⟨(some 22), .plain (.move (.tmp 0)), []⟩,
                ⟨(some 23), .plain (.bin .eql (.tmp 21) (.tmp 22)), []⟩,
                ⟨(some 20), .plain (.move (.tmp 23)), []⟩])
            (.cond (.tmp 20) (.seq (.region [⟨(some 4), .plain (.move (.const (.string ⟨#[111, 110, 108, 121]⟩))), []⟩,
                  ⟨(some 5), .plain (.move (.const (.int .i64 (0)))), []⟩])
              (.ret))
            (.skip))))))))))
  (.seq (.region [⟨(some 24), .plain (.move (.tmp 1)), []⟩,
      ⟨(some 25), .call 37 [(.tmp 24)], []⟩,
      ⟨(some 4), .plain (.move (.tmp 25)), []⟩,
      ⟨(some 5), .plain (.move (.const (.int .i64 (0)))), []⟩])
  (.ret)))⟩
theorem comp24 : compF Tryd.prog an24 Tryd.f24 = some ir24 := by kernel_rfl
theorem lps24 : loopsF Tryd.prog an24 Tryd.f24 = [] := by kernel_rfl
/-- noonmark/noonmarkref08.ShowTo -/
def an25 : An := (.s .z (.s (.s .z (.s (.s .z .z) .z)) (.s (.s .z (.s (.s .z .z) .z)) (.s (.s .z (.s (.s .z .z) .z)) (.s .z .z)))))
def ir25 : IFun := ⟨32, [.tmp 4, .tmp 5],
  .seq (.region [⟨(some 4), .plain (.move (.const (.string ⟨#[]⟩))), []⟩,
      ⟨(some 5), .plain (.move (.const (.int .i64 (0)))), []⟩])
  (.seq (.seq (.region [⟨(some 6), .plain (.move (.tmp 0)), []⟩,
        ⟨(some 7), .plain (.bin .lss (.tmp 6) (.const (.int .i64 (1)))), []⟩,
        ⟨(some 8), .plain (.move (.tmp 7)), []⟩,
        ⟨(some 9), .plain (.move (.tmp 0)), [(8, false)]⟩,
        ⟨(some 10), .plain (.bin .gtr (.tmp 9) (.const (.int .i64 (9999)))), [(8, false)]⟩,
        ⟨(some 11), .plain (.pick (.tmp 8) (.const (.bool true)) (.tmp 10)), []⟩,
        ⟨(some 12), .plain (.move (.tmp 11)), []⟩,
        ⟨(some 13), .plain (.move (.tmp 1)), [(12, false)]⟩,
        ⟨(some 14), .plain (.bin .neq (.tmp 13) (.const (.int .i64 (10000)))), [(12, false)]⟩,
        ⟨(some 15), .plain (.move (.tmp 14)), [(12, false)]⟩,
        ⟨(some 16), .plain (.move (.tmp 1)), [(12, false), (15, true)]⟩,
        ⟨(some 17), .plain (.move (.tmp 0)), [(12, false), (15, true)]⟩,
        ⟨(some 18), .plain (.bin .lss (.tmp 16) (.tmp 17)), [(12, false), (15, true)]⟩,
        ⟨(some 19), .plain (.move (.tmp 18)), [(12, false), (15, true)]⟩,
        ⟨(some 20), .plain (.move (.tmp 1)), [(12, false), (15, true), (19, false)]⟩,
        ⟨(some 21), .plain (.bin .gtr (.tmp 20) (.const (.int .i64 (9999)))), [(12, false), (15, true), (19, false)]⟩,
        ⟨(some 22), .plain (.pick (.tmp 19) (.const (.bool true)) (.tmp 21)), [(12, false), (15, true)]⟩,
        ⟨(some 23), .plain (.pick (.tmp 15) (.tmp 22) (.const (.bool false))), [(12, false)]⟩,
        ⟨(some 24), .plain (.pick (.tmp 12) (.const (.bool true)) (.tmp 23)), []⟩])
    (.cond (.tmp 24) (.seq (.region [⟨(some 4), .plain (.move (.const (.string ⟨#[]⟩))), []⟩,
          ⟨(some 5), .plain (.move (.const (.int .i64 (8)))), []⟩])
      (.ret))
    (.skip)))
  (.seq (.seq (.region [⟨(some 25), .plain (.move (.tmp 1)), []⟩,
        ⟨(some 26), .plain (.move (.tmp 0)), []⟩,
        ⟨(some 27), .plain (.bin .eql (.tmp 25) (.tmp 26)), []⟩])
    (.cond (.tmp 27) (.seq (.region [⟨(some 4), .plain (.move (.const (.string ⟨#[111, 110, 108, 121]⟩))), []⟩,
          ⟨(some 5), .plain (.move (.const (.int .i64 (0)))), []⟩])
      (.ret))
    (.skip)))
  (.seq (.seq (.region [⟨(some 28), .plain (.move (.tmp 1)), []⟩,
        ⟨(some 29), .plain (.bin .eql (.tmp 28) (.const (.int .i64 (10000)))), []⟩])
    (.cond (.tmp 29) (.seq (.region [⟨(some 4), .plain (.move (.const (.string ⟨#[109, 97, 120]⟩))), []⟩,
          ⟨(some 5), .plain (.move (.const (.int .i64 (0)))), []⟩])
      (.ret))
    (.skip)))
  (.seq (.region [⟨(some 30), .plain (.move (.tmp 1)), []⟩,
      ⟨(some 31), .call 38 [(.tmp 30)], []⟩,
      ⟨(some 4), .plain (.move (.tmp 31)), []⟩,
      ⟨(some 5), .plain (.move (.const (.int .i64 (0)))), []⟩])
  (.ret)))))⟩
theorem comp25 : compF Tryd.prog an25 Tryd.f25 = some ir25 := by kernel_rfl
theorem lps25 : loopsF Tryd.prog an25 Tryd.f25 = [] := by kernel_rfl
/-- noonmark/keyword.word -/
def an27 : An := (.s .z (.s (.s .z (.s (.s .z .z) .z)) (.s (.s .z (.b (.l 2700 [1, 6, 19, 20, 21] (.s .z (.s (.s .z .z) (.s (.b (.s .z (.s .z (.s .z (.s (.s .z .z) .z))))) .z)))))) (.s .z .z))))
def lb2700 : IC :=
  .seq (.region [⟨(some 22), .plain (.bin .lss (.tmp 21) (.tmp 20)), []⟩])
  (.seq (.cond (.tmp 22) (.skip)
    (.exit 0))
  (.seq (.block 1 (.seq (.region [⟨(some 23), .plain (.idx 1 (.tmp 19) (.tmp 21)), []⟩,
          ⟨(some 24), .plain (.load 1 false (.tmp 23)), []⟩,
          ⟨(some 8), .plain (.move (.tmp 24)), []⟩])
      (.seq (.region [⟨(some 25), .plain (.move (.tmp 8)), []⟩,
          ⟨(some 26), .plain (.bin .or (.tmp 25) (.const (.int .u8 (32)))), []⟩,
          ⟨(some 9), .plain (.move (.tmp 26)), []⟩])
      (.seq (.region [⟨(some 27), .plain (.move (.tmp 9)), []⟩,
          ⟨(some 28), .plain (.bin .leq (.const (.int .u8 (97))) (.tmp 27)), []⟩,
          ⟨(some 29), .plain (.move (.tmp 28)), []⟩,
          ⟨(some 30), .plain (.move (.tmp 9)), [(29, true)]⟩,
          ⟨(some 31), .plain (.bin .leq (.tmp 30) (.const (.int .u8 (122)))), [(29, true)]⟩,
          ⟨(some 32), .plain (.pick (.tmp 29) (.tmp 31) (.const (.bool false))), []⟩,
          ⟨(some 33), .plain (.move (.tmp 32)), []⟩,
          ⟨(some 34), .plain (.move (.tmp 8)), [(33, true)]⟩,
          ⟨(some 35), .plain (.bin .lss (.tmp 34) (.const (.int .u8 (128)))), [(33, true)]⟩,
          ⟨(some 36), .plain (.pick (.tmp 33) (.tmp 35) (.const (.bool false))), []⟩,
          ⟨(some 37), .plain (.un .not (.tmp 36)), []⟩,
          ⟨(some 38), .plain (.move (.tmp 37)), []⟩,
          ⟨(some 39), .plain (.move (.tmp 8)), [(38, true)]⟩,
          ⟨(some 40), .plain (.bin .leq (.const (.int .u8 (48))) (.tmp 39)), [(38, true)]⟩,
          ⟨(some 41), .plain (.move (.tmp 40)), [(38, true)]⟩,
          ⟨(some 42), .plain (.move (.tmp 8)), [(38, true), (41, true)]⟩,
          ⟨(some 43), .plain (.bin .leq (.tmp 42) (.const (.int .u8 (57)))), [(38, true), (41, true)]⟩,
          ⟨(some 44), .plain (.pick (.tmp 41) (.tmp 43) (.const (.bool false))), [(38, true)]⟩,
          ⟨(some 45), .plain (.un .not (.tmp 44)), [(38, true)]⟩,
          ⟨(some 46), .plain (.pick (.tmp 38) (.tmp 45) (.const (.bool false))), []⟩,
          ⟨(some 47), .plain (.move (.tmp 46)), []⟩,
          ⟨(some 48), .plain (.move (.tmp 1)), [(47, true)]⟩,
          ⟨(some 49), .plain (.move (.tmp 8)), [(47, true)]⟩,
          ⟨(some 50), .call 40 [(.tmp 48), (.tmp 49)], [(47, true)]⟩,
          ⟨(some 51), .plain (.un .not (.tmp 50)), [(47, true)]⟩,
          ⟨(some 52), .plain (.pick (.tmp 47) (.tmp 51) (.const (.bool false))), []⟩])
      (.cond (.tmp 52) (.seq (.region [⟨(some 6), .plain (.move (.const (.bool false))), []⟩])
        (.ret))
      (.skip))))))
  (.region [⟨(some 53), .plain (.bin .add (.tmp 21) (.const (.int .i64 (1)))), []⟩,
    ⟨(some 21), .plain (.move (.tmp 53)), []⟩])))
def ir27 : IFun := ⟨54, [.tmp 6],
  .seq (.region [⟨(some 6), .plain (.move (.const (.bool false))), []⟩])
  (.seq (.seq (.region [⟨(some 10), .plain (.move (.tmp 0)), []⟩,
        ⟨(some 11), .plain (.bin .eql (.tmp 10) (.const (.string ⟨#[]⟩))), []⟩,
        ⟨(some 12), .plain (.move (.tmp 11)), []⟩,
        ⟨(some 13), .plain (.move (.tmp 2)), [(12, false)]⟩,
        ⟨(some 14), .plain (.move (.tmp 0)), [(12, false)]⟩,
        ⟨(some 15), .plain (.byte (.tmp 14) (.const (.int .i64 (0)))), [(12, false)]⟩,
        ⟨(some 16), .call 40 [(.tmp 13), (.tmp 15)], [(12, false)]⟩,
        ⟨(some 17), .plain (.pick (.tmp 12) (.const (.bool true)) (.tmp 16)), []⟩])
    (.cond (.tmp 17) (.seq (.region [⟨(some 6), .plain (.move (.const (.bool false))), []⟩])
      (.ret))
    (.skip)))
  (.seq (.seq (.region [⟨(some 18), .plain (.move (.tmp 0)), []⟩,
        ⟨(some 19), .plain (.toBytes (.tmp 18)), []⟩,
        ⟨(some 20), .plain (.len false (.tmp 19)), []⟩,
        ⟨(some 21), .plain (.move (.const (.int .i64 (0)))), []⟩])
    (.block 0 (.loop 2700 [1, 6, 19, 20, 21])))
  (.seq (.region [⟨(some 6), .plain (.move (.const (.bool true))), []⟩])
  (.ret))))⟩
theorem comp27 : compF Tryd.prog an27 Tryd.f27 = some ir27 := by kernel_rfl
theorem lps27 : loopsF Tryd.prog an27 Tryd.f27 = [(2700, [1, 6, 19, 20, 21], some lb2700)] := by kernel_rfl
/-- noonmark/noonmarkref08.letter -/
def an28 : An := (.s .z (.s .z .z))
def ir28 : IFun := ⟨17, [.tmp 2],
  .seq (.region [⟨(some 2), .plain (.move (.const (.bool false))), []⟩])
  (.seq (.region [⟨(some 3), .plain (.move (.tmp 0)), []⟩,
      ⟨(some 4), .plain (.bin .geq (.tmp 3) (.const (.int .u8 (97)))), []⟩,
      ⟨(some 5), .plain (.move (.tmp 4)), []⟩,
      ⟨(some 6), .plain (.move (.tmp 0)), [(5, true)]⟩,
      ⟨(some 7), .plain (.bin .leq (.tmp 6) (.const (.int .u8 (122)))), [(5, true)]⟩,
      ⟨(some 8), .plain (.pick (.tmp 5) (.tmp 7) (.const (.bool false))), []⟩,
      ⟨(some 9), .plain (.move (.tmp 8)), []⟩,
      ⟨(some 10), .plain (.move (.tmp 0)), [(9, false)]⟩,
      ⟨(some 11), .plain (.bin .geq (.tmp 10) (.const (.int .u8 (65)))), [(9, false)]⟩,
      ⟨(some 12), .plain (.move (.tmp 11)), [(9, false)]⟩,
      ⟨(some 13), .plain (.move (.tmp 0)), [(9, false), (12, true)]⟩,
      ⟨(some 14), .plain (.bin .leq (.tmp 13) (.const (.int .u8 (90)))), [(9, false), (12, true)]⟩,
      ⟨(some 15), .plain (.pick (.tmp 12) (.tmp 14) (.const (.bool false))), [(9, false)]⟩,
      ⟨(some 16), .plain (.pick (.tmp 9) (.const (.bool true)) (.tmp 15)), []⟩,
      ⟨(some 2), .plain (.move (.tmp 16)), []⟩])
  (.ret))⟩
theorem comp28 : compF Tryd.prog an28 Tryd.f28 = some ir28 := by kernel_rfl
theorem lps28 : loopsF Tryd.prog an28 Tryd.f28 = [] := by kernel_rfl
/-- noonmark/noonmarkref08.digit -/
def an29 : An := (.s .z (.s .z .z))
def ir29 : IFun := ⟨9, [.tmp 2],
  .seq (.region [⟨(some 2), .plain (.move (.const (.bool false))), []⟩])
  (.seq (.region [⟨(some 3), .plain (.move (.tmp 0)), []⟩,
      ⟨(some 4), .plain (.bin .geq (.tmp 3) (.const (.int .u8 (48)))), []⟩,
      ⟨(some 5), .plain (.move (.tmp 4)), []⟩,
      ⟨(some 6), .plain (.move (.tmp 0)), [(5, true)]⟩,
      ⟨(some 7), .plain (.bin .leq (.tmp 6) (.const (.int .u8 (57)))), [(5, true)]⟩,
      ⟨(some 8), .plain (.pick (.tmp 5) (.tmp 7) (.const (.bool false))), []⟩,
      ⟨(some 2), .plain (.move (.tmp 8)), []⟩])
  (.ret))⟩
theorem comp29 : compF Tryd.prog an29 Tryd.f29 = some ir29 := by kernel_rfl
theorem lps29 : loopsF Tryd.prog an29 Tryd.f29 = [] := by kernel_rfl
/-- noonmark/keyword.one -/
def an30 : An := (.s .z (.s .z (.s (.s .z (.s (.s .z .z) .z)) (.s (.s .z (.b (.l 3000 [0, 4, 11, 12, 13] (.s .z (.s (.s .z .z) (.s (.b (.s .z (.b (.s .z (.s (.s .z .z) (.s .z (.s .z (.s .z (.s .z .z))))))))) .z)))))) (.s .z .z)))))
def lb3000 : IC :=
  .seq (.region [⟨(some 14), .plain (.bin .lss (.tmp 13) (.tmp 12)), []⟩])
  (.seq (.cond (.tmp 14) (.skip)
    (.exit 0))
  (.seq (.block 1 (.seq (.region [⟨(some 15), .plain (.move (.tmp 13)), []⟩,
          ⟨(some 16), .plain (.idx 1 (.tmp 11) (.tmp 13)), []⟩,
          ⟨(some 17), .plain (.load 1 false (.tmp 16)), []⟩,
          ⟨(some 5), .plain (.move (.tmp 15)), []⟩,
          ⟨(some 6), .plain (.move (.tmp 17)), []⟩])
      (.block 2 (.seq (.region [⟨(some 21), .plain (.move (.tmp 6)), []⟩,
            ⟨(some 22), .plain (.move (.tmp 0)), []⟩,
            ⟨(some 23), .plain (.bin .eql (.tmp 21) (.tmp 22)), []⟩,
            ⟨(some 20), .plain (.move (.tmp 23)), []⟩])
        (.cond (.tmp 20) (.seq (.region [⟨(some 24), .plain (.move (.tmp 5)), []⟩,
              ⟨(some 25), .plain (.bin .add (.tmp 24) (.const (.int .i64 (1)))), []⟩,
              ⟨(some 4), .plain (.move (.tmp 25)), []⟩])
          (.ret))
        (.seq (.region [⟨(some 27), .plain (.move (.tmp 6)), []⟩,
              ⟨(some 28), .plain (.move (.tmp 0)), []⟩,
              ⟨(some 29), .call 42 [(.tmp 27), (.tmp 28)], []⟩,
              ⟨(some 30), .plain (.un .not (.tmp 29)), []⟩,
              ⟨(some 26), .plain (.move (.tmp 30)), []⟩])
          (.cond (.tmp 26) (.skip)
          (.seq (.region [⟨(some 32), .plain (.move (.tmp 4)), []⟩,
                ⟨(some 33), .plain (.bin .neq (.tmp 32) (.const (.int .i64 (0)))), []⟩,
                ⟨(some 31), .plain (.move (.tmp 33)), []⟩])
            (.cond (.tmp 31) (.region [⟨(some 4), .plain (.move (.const (.int .i64 (-1)))), []⟩])
            (.region [⟨(some 18), .plain (.move (.tmp 5)), []⟩,
                ⟨(some 19), .plain (.bin .add (.tmp 18) (.const (.int .i64 (1)))), []⟩,
                ⟨(some 4), .plain (.move (.tmp 19)), []⟩]))))))))))
  (.region [⟨(some 34), .plain (.bin .add (.tmp 13) (.const (.int .i64 (1)))), []⟩,
    ⟨(some 13), .plain (.move (.tmp 34)), []⟩])))
def ir30 : IFun := ⟨37, [.tmp 4],
  .seq (.region [⟨(some 4), .plain (.move (.const (.int .i64 (0)))), []⟩])
  (.seq (.region [⟨(some 7), .plain (.move (.tmp 0)), []⟩,
      ⟨(some 8), .call 41 [(.tmp 7)], []⟩,
      ⟨(some 0), .plain (.move (.tmp 8)), []⟩])
  (.seq (.seq (.region [⟨(some 9), .plain (.move (.tmp 0)), []⟩,
        ⟨(some 10), .plain (.bin .eql (.tmp 9) (.const (.string ⟨#[]⟩))), []⟩])
    (.cond (.tmp 10) (.seq (.region [⟨(some 4), .plain (.move (.const (.int .i64 (0)))), []⟩])
      (.ret))
    (.skip)))
  (.seq (.seq (.region [⟨(some 11), .plain (.move (.tmp 1)), []⟩,
        ⟨(some 12), .plain (.len false (.tmp 11)), []⟩,
        ⟨(some 13), .plain (.move (.const (.int .i64 (0)))), []⟩])
    (.block 0 (.loop 3000 [0, 4, 11, 12, 13])))
  (.seq (.region [⟨(some 35), .plain (.move (.tmp 4)), []⟩,
      ⟨(some 36), .plain (.mm true [(.tmp 35), (.const (.int .i64 (0)))]), []⟩,
      ⟨(some 4), .plain (.move (.tmp 36)), []⟩])
  (.ret)))))⟩
theorem comp30 : compF Tryd.prog an30 Tryd.f30 = some ir30 := by kernel_rfl
theorem lps30 : loopsF Tryd.prog an30 Tryd.f30 = [(3000, [0, 4, 11, 12, 13], some lb3000)] := by kernel_rfl
/-- noonmark/noonmarkref08.find -/
def an31 : An := (.s .z (.s .z (.s .z (.s (.s .z (.b (.l 3100 [0, 1, 4, 5, 6, 7] (.s (.s .z (.s .z .z)) (.s (.b (.s (.s .z (.s .z .z)) (.s (.s .z (.s (.s .z .z) .z)) (.s .z .z)))) .z))))) (.s (.s .z (.s (.s .z .z) .z)) (.s .z .z))))))
def lb3100 : IC :=
  .seq (.seq (.region [⟨(some 10), .plain (.move (.tmp 7)), []⟩,
        ⟨(some 11), .plain (.move (.tmp 1)), []⟩,
        ⟨(some 12), .plain (.len false (.tmp 11)), []⟩,
        ⟨(some 13), .plain (.bin .lss (.tmp 10) (.tmp 12)), []⟩])
    (.cond (.tmp 13) (.skip)
    (.exit 0)))
  (.seq (.block 1 (.seq (.seq (.region [⟨(some 16), .plain (.move (.tmp 0)), []⟩,
            ⟨(some 17), .plain (.len true (.tmp 16)), []⟩,
            ⟨(some 18), .plain (.bin .eql (.tmp 17) (.const (.int .i64 (0)))), []⟩,
            ⟨(some 19), .plain (.move (.tmp 18)), []⟩,
            ⟨(some 20), .plain (.move (.tmp 0)), [(19, false)]⟩,
            ⟨(some 21), .plain (.len true (.tmp 20)), [(19, false)]⟩,
            ⟨(some 22), .plain (.move (.tmp 1)), [(19, false)]⟩,
            ⟨(some 23), .plain (.move (.tmp 7)), [(19, false)]⟩,
            ⟨(some 24), .plain (.idx 1 (.tmp 22) (.tmp 23)), [(19, false)]⟩,
            ⟨(some 25), .plain (.load 1 false (.tmp 24)), [(19, false)]⟩,
            ⟨(some 26), .plain (.len true (.tmp 25)), [(19, false)]⟩,
            ⟨(some 27), .plain (.bin .gtr (.tmp 21) (.tmp 26)), [(19, false)]⟩,
            ⟨(some 28), .plain (.pick (.tmp 19) (.const (.bool true)) (.tmp 27)), []⟩,
            ⟨(some 29), .plain (.move (.tmp 28)), []⟩,
            ⟨(some 30), .plain (.move (.tmp 1)), [(29, false)]⟩,
            ⟨(some 31), .plain (.move (.tmp 7)), [(29, false)]⟩,
            ⟨(some 32), .plain (.idx 1 (.tmp 30) (.tmp 31)), [(29, false)]⟩,
            ⟨(some 33), .plain (.load 1 false (.tmp 32)), [(29, false)]⟩,
            ⟨(some 34), .plain (.move (.tmp 0)), [(29, false)]⟩,
            ⟨(some 35), .plain (.len true (.tmp 34)), [(29, false)]⟩,
            ⟨(some 36), .plain (.cutStr (.tmp 33) none (some (.tmp 35))), [(29, false)]⟩,
            ⟨(some 37), .plain (.move (.tmp 0)), [(29, false)]⟩,
            ⟨(some 38), .plain (.bin .neq (.tmp 36) (.tmp 37)), [(29, false)]⟩,
            ⟨(some 39), .plain (.pick (.tmp 29) (.const (.bool true)) (.tmp 38)), []⟩])
        (.cond (.tmp 39) (.exit 1)
        (.skip)))
      (.seq (.seq (.region [⟨(some 40), .plain (.move (.tmp 0)), []⟩,
            ⟨(some 41), .plain (.len true (.tmp 40)), []⟩,
            ⟨(some 42), .plain (.move (.tmp 1)), []⟩,
            ⟨(some 43), .plain (.move (.tmp 7)), []⟩,
            ⟨(some 44), .plain (.idx 1 (.tmp 42) (.tmp 43)), []⟩,
            ⟨(some 45), .plain (.load 1 false (.tmp 44)), []⟩,
            ⟨(some 46), .plain (.len true (.tmp 45)), []⟩,
            ⟨(some 47), .plain (.bin .eql (.tmp 41) (.tmp 46)), []⟩])
        (.cond (.tmp 47) (.seq (.region [⟨(some 48), .plain (.move (.tmp 7)), []⟩,
              ⟨(some 49), .plain (.bin .add (.tmp 48) (.const (.int .i64 (1)))), []⟩,
              ⟨(some 4), .plain (.move (.tmp 49)), []⟩])
          (.ret))
        (.skip)))
      (.seq (.region [⟨(some 50), .plain (.move (.tmp 7)), []⟩,
          ⟨(some 51), .plain (.bin .add (.tmp 50) (.const (.int .i64 (1)))), []⟩,
          ⟨(some 5), .plain (.move (.tmp 51)), []⟩])
      (.region [⟨(some 52), .plain (.move (.tmp 6)), []⟩,
        ⟨(some 53), .plain (.bin .add (.tmp 52) (.const (.int .i64 (1)))), []⟩,
        ⟨(some 6), .plain (.move (.tmp 53)), []⟩])))))
  (.region [⟨(some 14), .plain (.move (.tmp 7)), []⟩,
    ⟨(some 15), .plain (.bin .add (.tmp 14) (.const (.int .i64 (1)))), []⟩,
    ⟨(some 7), .plain (.move (.tmp 15)), []⟩]))
def ir31 : IFun := ⟨57, [.tmp 4],
  .seq (.region [⟨(some 4), .plain (.move (.const (.int .i64 (0)))), []⟩])
  (.seq (.region [⟨(some 8), .plain (.move (.tmp 0)), []⟩,
      ⟨(some 9), .call 43 [(.tmp 8)], []⟩,
      ⟨(some 0), .plain (.move (.tmp 9)), []⟩])
  (.seq (.region [⟨(some 5), .plain (.move (.const (.int .i64 (0)))), []⟩,
      ⟨(some 6), .plain (.move (.const (.int .i64 (0)))), []⟩])
  (.seq (.seq (.region [⟨(some 7), .plain (.move (.const (.int .i64 (0)))), []⟩])
    (.block 0 (.loop 3100 [0, 1, 4, 5, 6, 7])))
  (.seq (.seq (.region [⟨(some 54), .plain (.move (.tmp 6)), []⟩,
        ⟨(some 55), .plain (.bin .neq (.tmp 54) (.const (.int .i64 (1)))), []⟩])
    (.cond (.tmp 55) (.seq (.region [⟨(some 4), .plain (.move (.const (.int .i64 (0)))), []⟩])
      (.ret))
    (.skip)))
  (.seq (.region [⟨(some 56), .plain (.move (.tmp 5)), []⟩,
      ⟨(some 4), .plain (.move (.tmp 56)), []⟩])
  (.ret))))))⟩
theorem comp31 : compF Tryd.prog an31 Tryd.f31 = some ir31 := by kernel_rfl
theorem lps31 : loopsF Tryd.prog an31 Tryd.f31 = [(3100, [0, 1, 4, 5, 6, 7], some lb3100)] := by kernel_rfl
/-- noonmark/keyword.months -/
def an32 : An := (.s .z (.s .z .z))
def ir32 : IFun := ⟨2, [.tmp 0],
  .seq (.region [⟨(some 0), .plain (.move (.const (.slice none 0 0))), []⟩])
  (.seq (.region [⟨(some 1), .call 44 [(.const (.string ⟨#[106, 97, 110, 117, 97, 114, 121, 32, 102, 101, 98, 114, 117, 97, 114, 121, 32, 109, 97, 114, 99, 104, 32, 97, 112, 114, 105, 108, 32, 109, 97, 121, 32, 106, 117, 110, 101, 32, 106, 117, 108, 121, 32, 97, 117, 103, 117, 115, 116, 32, 115, 101, 112, 116, 101, 109, 98, 101, 114, 32, 111, 99, 116, 111, 98, 101, 114, 32, 110, 111, 118, 101, 109, 98, 101, 114, 32, 100, 101, 99, 101, 109, 98, 101, 114]⟩))], []⟩,
      ⟨(some 0), .plain (.move (.tmp 1)), []⟩])
  (.ret))⟩
theorem comp32 : compF Tryd.prog an32 Tryd.f32 = some ir32 := by kernel_rfl
theorem lps32 : loopsF Tryd.prog an32 Tryd.f32 = [] := by kernel_rfl
/-- noonmark/noonmarkref08.months -/
def an33 : An := (.s .z (.s .z .z))
def ir33 : IFun := ⟨2, [.tmp 0],
  .seq (.region [⟨(some 0), .plain (.move (.const (.slice none 0 0))), []⟩])
  (.seq (.region [⟨(some 1), .plain (.lit 1 12 [(.string ⟨#[]⟩)] [(0, (.const (.string ⟨#[106, 97, 110, 117, 97, 114, 121]⟩))), (1, (.const (.string ⟨#[102, 101, 98, 114, 117, 97, 114, 121]⟩))), (2, (.const (.string ⟨#[109, 97, 114, 99, 104]⟩))), (3, (.const (.string ⟨#[97, 112, 114, 105, 108]⟩))), (4, (.const (.string ⟨#[109, 97, 121]⟩))), (5, (.const (.string ⟨#[106, 117, 110, 101]⟩))), (6, (.const (.string ⟨#[106, 117, 108, 121]⟩))), (7, (.const (.string ⟨#[97, 117, 103, 117, 115, 116]⟩))), (8, (.const (.string ⟨#[115, 101, 112, 116, 101, 109, 98, 101, 114]⟩))), (9, (.const (.string ⟨#[111, 99, 116, 111, 98, 101, 114]⟩))), (10, (.const (.string ⟨#[110, 111, 118, 101, 109, 98, 101, 114]⟩))), (11, (.const (.string ⟨#[100, 101, 99, 101, 109, 98, 101, 114]⟩)))]), []⟩,
      ⟨(some 0), .plain (.move (.tmp 1)), []⟩])
  (.ret))⟩
theorem comp33 : compF Tryd.prog an33 Tryd.f33 = some ir33 := by kernel_rfl
theorem lps33 : loopsF Tryd.prog an33 Tryd.f33 = [] := by kernel_rfl
/-- noonmark/escape.ParseInt -/
def an34 : An := (.s .z (.s .z (.s (.s .z (.s (.s .z .z) .z)) (.s .z (.k [4, 5, 6] (.s .z (.s .z .z)) (.s .z (.s .z (.s (.s .z (.b (.l 3400 [2, 3, 4, 5, 6, 7, 8, 31, 32] (.s .z (.s (.s .z .z) (.s (.b (.s .z (.s .z (.s (.s .z (.s (.s .z .z) .z)) (.s .z (.s .z (.s .z .z))))))) .z)))))) (.s (.b (.s .z (.s (.s .z .z) (.s .z (.s (.s .z .z) .z))))) (.s .z .z))))))))))
def lb3400 : IC :=
  .seq (.region [⟨(some 33), .plain (.bin .lss (.tmp 32) (.tmp 31)), []⟩])
  (.seq (.cond (.tmp 33) (.skip)
    (.exit 0))
  (.seq (.block 1 (.seq (.region [⟨(some 34), .plain (.move (.tmp 32)), []⟩,
          ⟨(some 9), .plain (.move (.tmp 34)), []⟩])
      (.seq (.region [⟨(some 35), .plain (.move (.tmp 4)), []⟩,
          ⟨(some 36), .plain (.move (.tmp 9)), []⟩,
          ⟨(some 37), .plain (.byte (.tmp 35) (.tmp 36)), []⟩,
          ⟨(some 38), .plain (.bin .sub (.tmp 37) (.const (.int .u8 (48)))), []⟩,
          ⟨(some 39), .plain (.toInt .u64 (.tmp 38)), []⟩,
          ⟨(some 10), .plain (.move (.tmp 39)), []⟩])
      (.seq (.seq (.region [⟨(some 40), .plain (.move (.tmp 10)), []⟩,
            ⟨(some 41), .plain (.bin .gtr (.tmp 40) (.const (.int .u64 (9)))), []⟩])
        (.cond (.tmp 41) (.seq (.region [⟨(some 2), .plain (.move (.const (.int .i64 (0)))), []⟩,
              ⟨(some 3), .plain (.move (.const (.int .i64 (3)))), []⟩])
          (.ret))
        (.skip)))
      (.seq (.region [⟨(some 42), .plain (.move (.tmp 8)), []⟩,
          ⟨(some 43), .plain (.move (.tmp 42)), []⟩,
          ⟨(some 44), .plain (.move (.tmp 7)), [(43, false)]⟩,
          ⟨(some 45), .plain (.move (.tmp 6)), [(43, false)]⟩,
          ⟨(some 46), .plain (.move (.tmp 10)), [(43, false)]⟩,
          ⟨(some 47), .plain (.bin .sub (.tmp 45) (.tmp 46)), [(43, false)]⟩,
          ⟨(some 48), .plain (.bin .quo (.tmp 47) (.const (.int .u64 (10)))), [(43, false)]⟩,
          ⟨(some 49), .plain (.bin .gtr (.tmp 44) (.tmp 48)), [(43, false)]⟩,
          ⟨(some 50), .plain (.pick (.tmp 43) (.const (.bool true)) (.tmp 49)), []⟩,
          ⟨(some 8), .plain (.move (.tmp 50)), []⟩])
      (.seq (.region [⟨(some 51), .plain (.move (.tmp 8)), []⟩,
          ⟨(some 52), .plain (.un .not (.tmp 51)), []⟩])
      (.cond (.tmp 52) (.region [⟨(some 53), .plain (.move (.tmp 7)), []⟩,
          ⟨(some 54), .plain (.bin .mul (.tmp 53) (.const (.int .u64 (10)))), []⟩,
          ⟨(some 55), .plain (.move (.tmp 10)), []⟩,
          ⟨(some 56), .plain (.bin .add (.tmp 54) (.tmp 55)), []⟩,
          ⟨(some 7), .plain (.move (.tmp 56)), []⟩])
      (.skip))))))))
  (.region [⟨(some 57), .plain (.bin .add (.tmp 32) (.const (.int .i64 (1)))), []⟩,
    ⟨(some 32), .plain (.move (.tmp 57)), []⟩])))
def ir34 : IFun := ⟨67, [.tmp 2, .tmp 3],
  .seq (.region [⟨(some 2), .plain (.move (.const (.int .i64 (0)))), []⟩,
      ⟨(some 3), .plain (.move (.const (.int .i64 (0)))), []⟩])
  (.seq (.region [⟨(some 12), .plain (.move (.tmp 0)), []⟩,
      ⟨(some 13), .call 45 [(.tmp 12), (.const (.string ⟨#[45]⟩))], []⟩,
      ⟨(some 11), .plain (.move (.tmp 13)), []⟩,
      ⟨(some 14), .plain (.extract 0 (.tmp 11)), []⟩,
      ⟨(some 15), .plain (.extract 1 (.tmp 11)), []⟩,
      ⟨(some 4), .plain (.move (.tmp 14)), []⟩,
      ⟨(some 5), .plain (.move (.tmp 15)), []⟩])
  (.seq (.seq (.region [⟨(some 16), .plain (.move (.tmp 4)), []⟩,
        ⟨(some 17), .plain (.bin .eql (.tmp 16) (.const (.string ⟨#[]⟩))), []⟩,
        ⟨(some 18), .plain (.move (.tmp 17)), []⟩,
        ⟨(some 19), .plain (.move (.tmp 4)), [(18, false)]⟩,
        ⟨(some 20), .plain (.byte (.tmp 19) (.const (.int .i64 (0)))), [(18, false)]⟩,
        ⟨(some 21), .plain (.bin .eql (.tmp 20) (.const (.int .u8 (48)))), [(18, false)]⟩,
        ⟨(some 22), .plain (.move (.tmp 21)), [(18, false)]⟩,
        ⟨(some 23), .plain (.move (.tmp 0)), [(18, false), (22, true)]⟩,
        ⟨(some 24), .plain (.bin .neq (.tmp 23) (.const (.string ⟨#[48]⟩))), [(18, false), (22, true)]⟩,
        ⟨(some 25), .plain (.pick (.tmp 22) (.tmp 24) (.const (.bool false))), [(18, false)]⟩,
        ⟨(some 26), .plain (.pick (.tmp 18) (.const (.bool true)) (.tmp 25)), []⟩])
    (.cond (.tmp 26) (.seq (.region [⟨(some 2), .plain (.move (.const (.int .i64 (0)))), []⟩,
          ⟨(some 3), .plain (.move (.const (.int .i64 (3)))), []⟩])
      (.ret))
    (.skip)))
  (.seq (.region [⟨(some 6), .plain (.move (.const (.int .u64 (9223372036854775807)))), []⟩])
  (.cut [4, 5, 6] (.seq (.region [⟨(some 27), .plain (.move (.tmp 5)), []⟩])
    (.cond (.tmp 27) (.region [⟨(some 28), .plain (.move (.tmp 6)), []⟩,
        ⟨(some 29), .plain (.bin .add (.tmp 28) (.const (.int .u64 (1)))), []⟩,
        ⟨(some 6), .plain (.move (.tmp 29)), []⟩])
    (.skip)))
  (.seq (.region [⟨(some 7), .plain (.move (.const (.int .u64 (0)))), []⟩])
  (.seq (.region [⟨(some 8), .plain (.move (.const (.bool false))), []⟩])
  (.seq (.seq (.region [⟨(some 30), .plain (.move (.tmp 4)), []⟩,
        ⟨(some 31), .plain (.len true (.tmp 30)), []⟩,
        ⟨(some 32), .plain (.move (.const (.int .i64 (0)))), []⟩])
    (.block 0 (.loop 3400 [2, 3, 4, 5, 6, 7, 8, 31, 32])))
  (.seq (.block 2 (.seq (.region [⟨(some 59), .plain (.move (.tmp 8)), []⟩,
          ⟨(some 58), .plain (.move (.tmp 59)), []⟩])
      (.cond (.tmp 58) (.seq (.region [⟨(some 2), .plain (.move (.const (.int .i64 (0)))), []⟩,
            ⟨(some 3), .plain (.move (.const (.int .i64 (2)))), []⟩])
        (.ret))
      (.seq (.region [⟨(some 61), .plain (.move (.tmp 5)), []⟩,
            ⟨(some 60), .plain (.move (.tmp 61)), []⟩])
        (.cond (.tmp 60) (.seq (.region [⟨(some 62), .plain (.move (.tmp 7)), []⟩,
              ⟨(some 63), .plain (.un .neg (.tmp 62)), []⟩,
              ⟨(some 64), .plain (.toInt .i64 (.tmp 63)), []⟩,
              ⟨(some 2), .plain (.move (.tmp 64)), []⟩,
              ⟨(some 3), .plain (.move (.const (.int .i64 (0)))), []⟩])
          (.ret))
        (.skip))))))
  (.seq (.region [⟨(some 65), .plain (.move (.tmp 7)), []⟩,
      ⟨(some 66), .plain (.toInt .i64 (.tmp 65)), []⟩,
      ⟨(some 2), .plain (.move (.tmp 66)), []⟩,
      ⟨(some 3), .plain (.move (.const (.int .i64 (0)))), []⟩])
  (.ret))))))))))⟩
theorem comp34 : compF Tryd.prog an34 Tryd.f34 = some ir34 := by kernel_rfl
theorem lps34 : loopsF Tryd.prog an34 Tryd.f34 = [(3400, [2, 3, 4, 5, 6, 7, 8, 31, 32], some lb3400)] := by kernel_rfl
/-- noonmark/keyword.year -/
def an35 : An := (.s .z (.s .z .z))
def ir35 : IFun := ⟨9, [.tmp 2],
  .seq (.region [⟨(some 2), .plain (.move (.const (.bool false))), []⟩])
  (.seq (.region [⟨(some 3), .plain (.move (.tmp 0)), []⟩,
      ⟨(some 4), .plain (.bin .geq (.tmp 3) (.const (.int .i64 (1)))), []⟩,
      ⟨(some 5), .plain (.move (.tmp 4)), []⟩,
      ⟨(some 6), .plain (.move (.tmp 0)), [(5, true)]⟩,
      ⟨(some 7), .plain (.bin .leq (.tmp 6) (.const (.int .i64 (9999)))), [(5, true)]⟩,
      ⟨(some 8), .plain (.pick (.tmp 5) (.tmp 7) (.const (.bool false))), []⟩,
      ⟨(some 2), .plain (.move (.tmp 8)), []⟩])
  (.ret))⟩
theorem comp35 : compF Tryd.prog an35 Tryd.f35 = some ir35 := by kernel_rfl
theorem lps35 : loopsF Tryd.prog an35 Tryd.f35 = [] := by kernel_rfl
/-- noonmark/noonmarkref02.ParseInt -/
def an36 : An := (.s .z (.s .z (.s .z (.k [4, 5] (.s .z (.s .z .z)) (.s (.s .z (.s (.s .z .z) .z)) (.s (.s .z (.b (.l 3600 [2, 3, 4, 5, 6] (.s (.s .z (.s .z .z)) (.s (.b (.s .z (.s (.s .z .z) .z))) .z))))) (.s (.s .z (.s (.s .z .z) .z)) (.s .z (.s (.s .z (.b (.l 3601 [2, 3, 4, 5, 7, 8] (.s (.s .z (.s .z .z)) (.s (.b (.s .z (.s (.s .z (.s (.s .z .z) .z)) .z))) .z))))) (.s (.s .z (.s (.s .z .z) .z)) (.s (.s .z (.s (.s .z .z) .z)) (.s .z .z))))))))))))
def lb3600 : IC :=
  .seq (.seq (.region [⟨(some 38), .plain (.move (.tmp 6)), []⟩,
        ⟨(some 39), .plain (.move (.tmp 4)), []⟩,
        ⟨(some 40), .plain (.len true (.tmp 39)), []⟩,
        ⟨(some 41), .plain (.bin .lss (.tmp 38) (.tmp 40)), []⟩])
    (.cond (.tmp 41) (.skip)
    (.exit 0)))
  (.seq (.block 1 (.seq (.region [⟨(some 44), .plain (.move (.tmp 4)), []⟩,
          ⟨(some 45), .plain (.move (.tmp 6)), []⟩,
          ⟨(some 46), .plain (.byte (.tmp 44) (.tmp 45)), []⟩,
          ⟨(some 47), .plain (.bin .lss (.tmp 46) (.const (.int .u8 (48)))), []⟩,
          ⟨(some 48), .plain (.move (.tmp 47)), []⟩,
          ⟨(some 49), .plain (.move (.tmp 4)), [(48, false)]⟩,
          ⟨(some 50), .plain (.move (.tmp 6)), [(48, false)]⟩,
          ⟨(some 51), .plain (.byte (.tmp 49) (.tmp 50)), [(48, false)]⟩,
          ⟨(some 52), .plain (.bin .gtr (.tmp 51) (.const (.int .u8 (57)))), [(48, false)]⟩,
          ⟨(some 53), .plain (.pick (.tmp 48) (.const (.bool true)) (.tmp 52)), []⟩])
      (.cond (.tmp 53) (.seq (.region [⟨(some 2), .plain (.move (.const (.int .i64 (0)))), []⟩,
            ⟨(some 3), .plain (.move (.const (.int .i64 (3)))), []⟩])
        (.ret))
      (.skip))))
  (.region [⟨(some 42), .plain (.move (.tmp 6)), []⟩,
    ⟨(some 43), .plain (.bin .add (.tmp 42) (.const (.int .i64 (1)))), []⟩,
    ⟨(some 6), .plain (.move (.tmp 43)), []⟩]))
def lb3601 : IC :=
  .seq (.seq (.region [⟨(some 57), .plain (.move (.tmp 8)), []⟩,
        ⟨(some 58), .plain (.move (.tmp 4)), []⟩,
        ⟨(some 59), .plain (.len true (.tmp 58)), []⟩,
        ⟨(some 60), .plain (.bin .lss (.tmp 57) (.tmp 59)), []⟩])
    (.cond (.tmp 60) (.skip)
    (.exit 2)))
  (.seq (.block 3 (.seq (.region [⟨(some 63), .plain (.move (.tmp 4)), []⟩,
          ⟨(some 64), .plain (.move (.tmp 8)), []⟩,
          ⟨(some 65), .plain (.byte (.tmp 63) (.tmp 64)), []⟩,
          ⟨(some 66), .plain (.bin .sub (.tmp 65) (.const (.int .u8 (48)))), []⟩,
          ⟨(some 67), .plain (.toInt .i64 (.tmp 66)), []⟩,
          ⟨(some 9), .plain (.move (.tmp 67)), []⟩])
      (.seq (.seq (.region [⟨(some 68), .plain (.move (.tmp 7)), []⟩,
            ⟨(some 69), .plain (.move (.tmp 9)), []⟩,
            ⟨(some 70), .plain (.bin .add (.const (.int .i64 (-9223372036854775808))) (.tmp 69)), []⟩,
            ⟨(some 71), .plain (.bin .quo (.tmp 70) (.const (.int .i64 (10)))), []⟩,
            ⟨(some 72), .plain (.bin .lss (.tmp 68) (.tmp 71)), []⟩])
        (.cond (.tmp 72) (.seq (.region [⟨(some 2), .plain (.move (.const (.int .i64 (0)))), []⟩,
              ⟨(some 3), .plain (.move (.const (.int .i64 (2)))), []⟩])
          (.ret))
        (.skip)))
      (.region [⟨(some 73), .plain (.move (.tmp 7)), []⟩,
        ⟨(some 74), .plain (.bin .mul (.tmp 73) (.const (.int .i64 (10)))), []⟩,
        ⟨(some 75), .plain (.move (.tmp 9)), []⟩,
        ⟨(some 76), .plain (.bin .sub (.tmp 74) (.tmp 75)), []⟩,
        ⟨(some 7), .plain (.move (.tmp 76)), []⟩]))))
  (.region [⟨(some 61), .plain (.move (.tmp 8)), []⟩,
    ⟨(some 62), .plain (.bin .add (.tmp 61) (.const (.int .i64 (1)))), []⟩,
    ⟨(some 8), .plain (.move (.tmp 62)), []⟩]))
def ir36 : IFun := ⟨83, [.tmp 2, .tmp 3],
  .seq (.region [⟨(some 2), .plain (.move (.const (.int .i64 (0)))), []⟩,
      ⟨(some 3), .plain (.move (.const (.int .i64 (0)))), []⟩])
  (.seq (.region [⟨(some 10), .plain (.move (.tmp 0)), []⟩,
      ⟨(some 4), .plain (.move (.tmp 10)), []⟩])
  (.seq (.region [⟨(some 11), .plain (.move (.tmp 4)), []⟩,
      ⟨(some 12), .plain (.len true (.tmp 11)), []⟩,
      ⟨(some 13), .plain (.bin .gtr (.tmp 12) (.const (.int .i64 (0)))), []⟩,
      ⟨(some 14), .plain (.move (.tmp 13)), []⟩,
      ⟨(some 15), .plain (.move (.tmp 4)), [(14, true)]⟩,
      ⟨(some 16), .plain (.byte (.tmp 15) (.const (.int .i64 (0)))), [(14, true)]⟩,
      ⟨(some 17), .plain (.bin .eql (.tmp 16) (.const (.int .u8 (45)))), [(14, true)]⟩,
      ⟨(some 18), .plain (.pick (.tmp 14) (.tmp 17) (.const (.bool false))), []⟩,
      ⟨(some 5), .plain (.move (.tmp 18)), []⟩])
  (.cut [4, 5] (.seq (.region [⟨(some 19), .plain (.move (.tmp 5)), []⟩])
    (.cond (.tmp 19) (.region [⟨(some 20), .plain (.move (.tmp 4)), []⟩,
        ⟨(some 21), .plain (.cutStr (.tmp 20) (some (.const (.int .i64 (1)))) none), []⟩,
        ⟨(some 4), .plain (.move (.tmp 21)), []⟩])
    (.skip)))
  (.seq (.seq (.region [⟨(some 22), .plain (.move (.tmp 4)), []⟩,
        ⟨(some 23), .plain (.len true (.tmp 22)), []⟩,
        ⟨(some 24), .plain (.bin .eql (.tmp 23) (.const (.int .i64 (0)))), []⟩,
        ⟨(some 25), .plain (.move (.tmp 24)), []⟩,
        ⟨(some 26), .plain (.move (.tmp 4)), [(25, false)]⟩,
        ⟨(some 27), .plain (.byte (.tmp 26) (.const (.int .i64 (0)))), [(25, false)]⟩,
        ⟨(some 28), .plain (.bin .eql (.tmp 27) (.const (.int .u8 (48)))), [(25, false)]⟩,
        ⟨(some 29), .plain (.move (.tmp 28)), [(25, false)]⟩,
        ⟨(some 30), .plain (.move (.tmp 4)), [(25, false), (29, true)]⟩,
        ⟨(some 31), .plain (.len true (.tmp 30)), [(25, false), (29, true)]⟩,
        ⟨(some 32), .plain (.bin .gtr (.tmp 31) (.const (.int .i64 (1)))), [(25, false), (29, true)]⟩,
        ⟨(some 33), .plain (.move (.tmp 32)), [(25, false), (29, true)]⟩,
        ⟨(some 34), .plain (.move (.tmp 5)), [(25, false), (29, true), (33, false)]⟩,
        ⟨(some 35), .plain (.pick (.tmp 33) (.const (.bool true)) (.tmp 34)), [(25, false), (29, true)]⟩,
        ⟨(some 36), .plain (.pick (.tmp 29) (.tmp 35) (.const (.bool false))), [(25, false)]⟩,
        ⟨(some 37), .plain (.pick (.tmp 25) (.const (.bool true)) (.tmp 36)), []⟩])
    (.cond (.tmp 37) (.seq (.region [⟨(some 2), .plain (.move (.const (.int .i64 (0)))), []⟩,
          ⟨(some 3), .plain (.move (.const (.int .i64 (3)))), []⟩])
      (.ret))
    (.skip)))
  (.seq (.seq (.region [⟨(some 6), .plain (.move (.const (.int .i64 (0)))), []⟩])
    (.block 0 (.loop 3600 [2, 3, 4, 5, 6])))
  (.seq (.seq (.region [⟨(some 54), .plain (.move (.tmp 4)), []⟩,
        ⟨(some 55), .plain (.len true (.tmp 54)), []⟩,
        ⟨(some 56), .plain (.bin .gtr (.tmp 55) (.const (.int .i64 (19)))), []⟩])
    (.cond (.tmp 56) (.seq (.region [⟨(some 2), .plain (.move (.const (.int .i64 (0)))), []⟩,
          ⟨(some 3), .plain (.move (.const (.int .i64 (2)))), []⟩])
      (.ret))
    (.skip)))
  (.seq (.region [⟨(some 7), .plain (.move (.const (.int .i64 (0)))), []⟩])
  (.seq (.seq (.region [⟨(some 8), .plain (.move (.const (.int .i64 (0)))), []⟩])
    (.block 2 (.loop 3601 [2, 3, 4, 5, 7, 8])))
  (.seq (.seq (.region [⟨(some 77), .plain (.move (.tmp 5)), []⟩])
    (.cond (.tmp 77) (.seq (.region [⟨(some 78), .plain (.move (.tmp 7)), []⟩,
          ⟨(some 2), .plain (.move (.tmp 78)), []⟩,
          ⟨(some 3), .plain (.move (.const (.int .i64 (0)))), []⟩])
      (.ret))
    (.skip)))
  (.seq (.seq (.region [⟨(some 79), .plain (.move (.tmp 7)), []⟩,
        ⟨(some 80), .plain (.bin .lss (.tmp 79) (.const (.int .i64 (-9223372036854775807)))), []⟩])
    (.cond (.tmp 80) (.seq (.region [⟨(some 2), .plain (.move (.const (.int .i64 (0)))), []⟩,
          ⟨(some 3), .plain (.move (.const (.int .i64 (2)))), []⟩])
      (.ret))
    (.skip)))
  (.seq (.region [⟨(some 81), .plain (.move (.tmp 7)), []⟩,
      ⟨(some 82), .plain (.un .neg (.tmp 81)), []⟩,
      ⟨(some 2), .plain (.move (.tmp 82)), []⟩,
      ⟨(some 3), .plain (.move (.const (.int .i64 (0)))), []⟩])
  (.ret))))))))))))⟩
theorem comp36 : compF Tryd.prog an36 Tryd.f36 = some ir36 := by kernel_rfl
theorem lps36 : loopsF Tryd.prog an36 Tryd.f36 = [(3600, [2, 3, 4, 5, 6], some lb3600), (3601, [2, 3, 4, 5, 7, 8], some lb3601)] := by kernel_rfl
/-- noonmark/escape.Int -/
def an37 : An := (.s .z (.s .z (.s .z (.s .z (.k [0, 3, 4, 5] (.s .z (.s .z .z)) (.s (.b (.l 3700 [0, 3, 4, 5] (.b (.s .z (.s .z (.s .z (.s .z (.s .z .z)))))))) (.s (.s .z (.s (.s .z .z) .z)) (.s .z .z))))))))
def lb3700 : IC :=
  .block 1 (.seq (.region [⟨(some 12), .plain (.move (.tmp 4)), []⟩,
        ⟨(some 13), .plain (.bin .sub (.tmp 12) (.const (.int .i64 (1)))), []⟩,
        ⟨(some 4), .plain (.move (.tmp 13)), []⟩])
    (.seq (.region [⟨(some 14), .plain (.move (.tmp 4)), []⟩,
        ⟨(some 15), .plain (.move (.tmp 5)), []⟩,
        ⟨(some 16), .plain (.bin .rem (.tmp 15) (.const (.int .u64 (10)))), []⟩,
        ⟨(some 17), .plain (.bin .add (.const (.int .u64 (48))) (.tmp 16)), []⟩,
        ⟨(some 18), .plain (.toInt .u8 (.tmp 17)), []⟩,
        ⟨(some 19), .plain (.idxArr 20 1 (.tmp 3) (.tmp 14)), []⟩,
        ⟨none, .plain (.store 1 (.tmp 19) (.tmp 18)), []⟩])
    (.seq (.region [⟨(some 20), .plain (.move (.tmp 5)), []⟩,
        ⟨(some 21), .plain (.bin .quo (.tmp 20) (.const (.int .u64 (10)))), []⟩,
        ⟨(some 5), .plain (.move (.tmp 21)), []⟩])
    (.seq (.region [⟨(some 22), .plain (.move (.tmp 5)), []⟩,
        ⟨(some 23), .plain (.bin .eql (.tmp 22) (.const (.int .u64 (0)))), []⟩])
    (.cond (.tmp 23) (.exit 0)
    (.skip))))))
def ir37 : IFun := ⟨33, [.tmp 2],
  .seq (.region [⟨(some 2), .plain (.move (.const (.string ⟨#[]⟩))), []⟩])
  (.seq (.region [⟨(some 3), .plain (.new 1 [(.int .u8 (0)), (.int .u8 (0)), (.int .u8 (0)), (.int .u8 (0)), (.int .u8 (0)), (.int .u8 (0)), (.int .u8 (0)), (.int .u8 (0)), (.int .u8 (0)), (.int .u8 (0)), (.int .u8 (0)), (.int .u8 (0)), (.int .u8 (0)), (.int .u8 (0)), (.int .u8 (0)), (.int .u8 (0)), (.int .u8 (0)), (.int .u8 (0)), (.int .u8 (0)), (.int .u8 (0))]), []⟩])
  (.seq (.region [⟨(some 4), .plain (.move (.const (.int .i64 (20)))), []⟩])
  (.seq (.region [⟨(some 6), .plain (.move (.tmp 0)), []⟩,
      ⟨(some 7), .plain (.toInt .u64 (.tmp 6)), []⟩,
      ⟨(some 5), .plain (.move (.tmp 7)), []⟩])
  (.cut [0, 3, 4, 5] (.seq (.region [⟨(some 8), .plain (.move (.tmp 0)), []⟩,
        ⟨(some 9), .plain (.bin .lss (.tmp 8) (.const (.int .i64 (0)))), []⟩])
    (.cond (.tmp 9) (.region [⟨(some 10), .plain (.move (.tmp 5)), []⟩,
        ⟨(some 11), .plain (.un .neg (.tmp 10)), []⟩,
        ⟨(some 5), .plain (.move (.tmp 11)), []⟩])
    (.skip)))
  (.seq (.block 0 (.loop 3700 [0, 3, 4, 5]))
  (.seq (.seq (.region [⟨(some 24), .plain (.move (.tmp 0)), []⟩,
        ⟨(some 25), .plain (.bin .lss (.tmp 24) (.const (.int .i64 (0)))), []⟩])
    (.cond (.tmp 25) (.seq (.region [⟨(some 26), .plain (.move (.tmp 4)), []⟩,
          ⟨(some 27), .plain (.bin .sub (.tmp 26) (.const (.int .i64 (1)))), []⟩,
          ⟨(some 4), .plain (.move (.tmp 27)), []⟩])
      (.region [⟨(some 28), .plain (.move (.tmp 4)), []⟩,
        ⟨(some 29), .plain (.idxArr 20 1 (.tmp 3) (.tmp 28)), []⟩,
        ⟨none, .plain (.store 1 (.tmp 29) (.const (.int .u8 (45)))), []⟩]))
    (.skip)))
  (.seq (.region [⟨(some 30), .plain (.move (.tmp 4)), []⟩,
      ⟨(some 31), .plain (.cutArr 20 1 (.tmp 3) (some (.tmp 30)) none), []⟩,
      ⟨(some 32), .plain (.toStr (.tmp 31)), []⟩,
      ⟨(some 2), .plain (.move (.tmp 32)), []⟩])
  (.ret))))))))⟩
theorem comp37 : compF Tryd.prog an37 Tryd.f37 = some ir37 := by kernel_rfl
theorem lps37 : loopsF Tryd.prog an37 Tryd.f37 = [(3700, [0, 3, 4, 5], some lb3700)] := by kernel_rfl
/-- noonmark/noonmarkref02.Int -/
def an38 : An := (.s .z (.s (.s .z (.s (.s .z .z) .z)) (.s .z .z)))
def ir38 : IFun := ⟨11, [.tmp 2],
  .seq (.region [⟨(some 2), .plain (.move (.const (.string ⟨#[]⟩))), []⟩])
  (.seq (.seq (.region [⟨(some 3), .plain (.move (.tmp 0)), []⟩,
        ⟨(some 4), .plain (.bin .lss (.tmp 3) (.const (.int .i64 (0)))), []⟩])
    (.cond (.tmp 4) (.seq (.region [⟨(some 5), .plain (.move (.tmp 0)), []⟩,
          ⟨(some 6), .call 46 [(.tmp 5)], []⟩,
          ⟨(some 7), .plain (.bin .add (.const (.string ⟨#[45]⟩)) (.tmp 6)), []⟩,
          ⟨(some 2), .plain (.move (.tmp 7)), []⟩])
      (.ret))
    (.skip)))
  (.seq (.region [⟨(some 8), .plain (.move (.tmp 0)), []⟩,
      ⟨(some 9), .plain (.un .neg (.tmp 8)), []⟩,
      ⟨(some 10), .call 46 [(.tmp 9)], []⟩,
      ⟨(some 2), .plain (.move (.tmp 10)), []⟩])
  (.ret)))⟩
theorem comp38 : compF Tryd.prog an38 Tryd.f38 = some ir38 := by kernel_rfl
theorem lps38 : loopsF Tryd.prog an38 Tryd.f38 = [] := by kernel_rfl
/-- (noonmark/keyword.set).has -/
def an40 : An := (.s .z (.s .z .z))
def ir40 : IFun := ⟨9, [.tmp 4],
  .seq (.region [⟨(some 4), .plain (.move (.const (.bool false))), []⟩])
  (.seq (.region [⟨(some 5), .plain (.move (.tmp 0)), []⟩,
      ⟨(some 6), .plain (.move (.tmp 1)), []⟩,
      ⟨(some 7), .call 50 [(.tmp 5), (.tmp 6)], []⟩,
      ⟨(some 8), .plain (.bin .geq (.tmp 7) (.const (.int .i64 (0)))), []⟩,
      ⟨(some 4), .plain (.move (.tmp 8)), []⟩])
  (.ret))⟩
theorem comp40 : compF Tryd.prog an40 Tryd.f40 = some ir40 := by kernel_rfl
theorem lps40 : loopsF Tryd.prog an40 Tryd.f40 = [] := by kernel_rfl
/-- noonmark/keyword.small -/
def an41 : An := (.s .z (.s .z (.s (.s .z (.b (.l 4100 [3, 8, 9, 10] (.s .z (.s (.s .z .z) (.s (.b (.s .z (.s .z (.s .z .z)))) .z)))))) (.s .z .z))))
def lb4100 : IC :=
  .seq (.region [⟨(some 11), .plain (.bin .lss (.tmp 10) (.tmp 9)), []⟩])
  (.seq (.cond (.tmp 11) (.skip)
    (.exit 0))
  (.seq (.block 1 (.seq (.region [⟨(some 12), .plain (.move (.tmp 10)), []⟩,
          ⟨(some 13), .plain (.idx 1 (.tmp 8) (.tmp 10)), []⟩,
          ⟨(some 14), .plain (.load 1 false (.tmp 13)), []⟩,
          ⟨(some 4), .plain (.move (.tmp 12)), []⟩,
          ⟨(some 5), .plain (.move (.tmp 14)), []⟩])
      (.seq (.region [⟨(some 15), .plain (.move (.tmp 5)), []⟩,
          ⟨(some 16), .plain (.bin .leq (.const (.int .u8 (65))) (.tmp 15)), []⟩,
          ⟨(some 17), .plain (.move (.tmp 16)), []⟩,
          ⟨(some 18), .plain (.move (.tmp 5)), [(17, true)]⟩,
          ⟨(some 19), .plain (.bin .leq (.tmp 18) (.const (.int .u8 (90)))), [(17, true)]⟩,
          ⟨(some 20), .plain (.pick (.tmp 17) (.tmp 19) (.const (.bool false))), []⟩])
      (.cond (.tmp 20) (.region [⟨(some 21), .plain (.move (.tmp 3)), []⟩,
          ⟨(some 22), .plain (.move (.tmp 4)), []⟩,
          ⟨(some 23), .plain (.move (.tmp 5)), []⟩,
          ⟨(some 24), .plain (.bin .or (.tmp 23) (.const (.int .u8 (32)))), []⟩,
          ⟨(some 25), .plain (.idx 1 (.tmp 21) (.tmp 22)), []⟩,
          ⟨none, .plain (.store 1 (.tmp 25) (.tmp 24)), []⟩])
      (.skip)))))
  (.region [⟨(some 26), .plain (.bin .add (.tmp 10) (.const (.int .i64 (1)))), []⟩,
    ⟨(some 10), .plain (.move (.tmp 26)), []⟩])))
def ir41 : IFun := ⟨29, [.tmp 2],
  .seq (.region [⟨(some 2), .plain (.move (.const (.string ⟨#[]⟩))), []⟩])
  (.seq (.region [⟨(some 6), .plain (.move (.tmp 0)), []⟩,
      ⟨(some 7), .plain (.toBytes (.tmp 6)), []⟩,
      ⟨(some 3), .plain (.move (.tmp 7)), []⟩])
  (.seq (.seq (.region [⟨(some 8), .plain (.move (.tmp 3)), []⟩,
        ⟨(some 9), .plain (.len false (.tmp 8)), []⟩,
        ⟨(some 10), .plain (.move (.const (.int .i64 (0)))), []⟩])
    (.block 0 (.loop 4100 [3, 8, 9, 10])))
  (.seq (.region [⟨(some 27), .plain (.move (.tmp 3)), []⟩,
      ⟨(some 28), .plain (.toStr (.tmp 27)), []⟩,
      ⟨(some 2), .plain (.move (.tmp 28)), []⟩])
  (.ret))))⟩
theorem comp41 : compF Tryd.prog an41 Tryd.f41 = some ir41 := by kernel_rfl
theorem lps41 : loopsF Tryd.prog an41 Tryd.f41 = [(4100, [3, 8, 9, 10], some lb4100)] := by kernel_rfl
/-- strings.HasPrefix -/
def an42 : An := (.s .z (.s .z .z))
def ir42 : IFun := ⟨8, [.tmp 4],
  .seq (.region [⟨(some 4), .plain (.move (.const (.bool false))), []⟩])
  (.seq (.region [⟨(some 5), .plain (.move (.tmp 0)), []⟩,
      ⟨(some 6), .plain (.move (.tmp 1)), []⟩,
      ⟨(some 7), .call 51 [(.tmp 5), (.tmp 6)], []⟩,
      ⟨(some 4), .plain (.move (.tmp 7)), []⟩])
  (.ret))⟩
theorem comp42 : compF Tryd.prog an42 Tryd.f42 = some ir42 := by kernel_rfl
theorem lps42 : loopsF Tryd.prog an42 Tryd.f42 = [] := by kernel_rfl
/-- noonmark/noonmarkref08.small -/
def an43 : An := (.s .z (.s .z (.s (.s .z (.b (.l 4300 [0, 3, 4] (.s (.s .z (.s .z .z)) (.s (.b (.s .z (.s (.s .z (.s .z .z)) .z))) .z))))) (.s .z .z))))
def lb4300 : IC :=
  .seq (.seq (.region [⟨(some 6), .plain (.move (.tmp 4)), []⟩,
        ⟨(some 7), .plain (.move (.tmp 0)), []⟩,
        ⟨(some 8), .plain (.len true (.tmp 7)), []⟩,
        ⟨(some 9), .plain (.bin .lss (.tmp 6) (.tmp 8)), []⟩])
    (.cond (.tmp 9) (.skip)
    (.exit 0)))
  (.seq (.block 1 (.seq (.region [⟨(some 12), .plain (.move (.tmp 0)), []⟩,
          ⟨(some 13), .plain (.move (.tmp 4)), []⟩,
          ⟨(some 14), .plain (.byte (.tmp 12) (.tmp 13)), []⟩,
          ⟨(some 5), .plain (.move (.tmp 14)), []⟩])
      (.seq (.seq (.region [⟨(some 15), .plain (.move (.tmp 5)), []⟩,
            ⟨(some 16), .plain (.bin .geq (.tmp 15) (.const (.int .u8 (65)))), []⟩,
            ⟨(some 17), .plain (.move (.tmp 16)), []⟩,
            ⟨(some 18), .plain (.move (.tmp 5)), [(17, true)]⟩,
            ⟨(some 19), .plain (.bin .leq (.tmp 18) (.const (.int .u8 (90)))), [(17, true)]⟩,
            ⟨(some 20), .plain (.pick (.tmp 17) (.tmp 19) (.const (.bool false))), []⟩])
        (.cond (.tmp 20) (.region [⟨(some 21), .plain (.move (.tmp 5)), []⟩,
            ⟨(some 22), .plain (.bin .add (.tmp 21) (.const (.int .u8 (32)))), []⟩,
            ⟨(some 5), .plain (.move (.tmp 22)), []⟩])
        (.skip)))
      (.region [⟨(some 23), .plain (.move (.tmp 3)), []⟩,
        ⟨(some 24), .plain (.move (.tmp 5)), []⟩,
        ⟨(some 25), .plain (.lit 1 1 [(.int .u8 (0))] [(0, (.tmp 24))]), []⟩,
        ⟨(some 26), .plain (.app false 1 1 (.tmp 23) (.tmp 25)), []⟩,
        ⟨(some 3), .plain (.move (.tmp 26)), []⟩]))))
  (.region [⟨(some 10), .plain (.move (.tmp 4)), []⟩,
    ⟨(some 11), .plain (.bin .add (.tmp 10) (.const (.int .i64 (1)))), []⟩,
    ⟨(some 4), .plain (.move (.tmp 11)), []⟩]))
def ir43 : IFun := ⟨29, [.tmp 2],
  .seq (.region [⟨(some 2), .plain (.move (.const (.string ⟨#[]⟩))), []⟩])
  (.seq (.region [⟨(some 3), .plain (.move (.const (.slice none 0 0))), []⟩])
  (.seq (.seq (.region [⟨(some 4), .plain (.move (.const (.int .i64 (0)))), []⟩])
    (.block 0 (.loop 4300 [0, 3, 4])))
  (.seq (.region [⟨(some 27), .plain (.move (.tmp 3)), []⟩,
      ⟨(some 28), .plain (.toStr (.tmp 27)), []⟩,
      ⟨(some 2), .plain (.move (.tmp 28)), []⟩])
  (.ret))))⟩
theorem comp43 : compF Tryd.prog an43 Tryd.f43 = some ir43 := by kernel_rfl
theorem lps43 : loopsF Tryd.prog an43 Tryd.f43 = [(4300, [0, 3, 4], some lb4300)] := by kernel_rfl
/-- strings.CutPrefix -/
def an45 : An := (.s .z (.s .z .z))
def ir45 : IFun := ⟨11, [.tmp 4, .tmp 5],
  .seq (.region [⟨(some 4), .plain (.move (.const (.string ⟨#[]⟩))), []⟩,
      ⟨(some 5), .plain (.move (.const (.bool false))), []⟩])
  (.seq (.region [⟨(some 6), .plain (.move (.tmp 0)), []⟩,
      ⟨(some 7), .plain (.move (.tmp 1)), []⟩,
      ⟨(some 8), .call 54 [(.tmp 6), (.tmp 7)], []⟩,
      ⟨(some 9), .plain (.extract 0 (.tmp 8)), []⟩,
      ⟨(some 10), .plain (.extract 1 (.tmp 8)), []⟩,
      ⟨(some 4), .plain (.move (.tmp 9)), []⟩,
      ⟨(some 5), .plain (.move (.tmp 10)), []⟩])
  (.ret))⟩
theorem comp45 : compF Tryd.prog an45 Tryd.f45 = some ir45 := by kernel_rfl
theorem lps45 : loopsF Tryd.prog an45 Tryd.f45 = [] := by kernel_rfl
/-- noonmark/noonmarkref02.digits -/
def an46 : An := (.s .z (.s .z (.s (.s .z (.s (.s .z .z) .z)) (.s .z .z))))
def ir46 : IFun := ⟨18, [.tmp 2],
  .seq (.region [⟨(some 2), .plain (.move (.const (.string ⟨#[]⟩))), []⟩])
  (.seq (.region [⟨(some 4), .plain (.move (.tmp 0)), []⟩,
      ⟨(some 5), .plain (.bin .rem (.tmp 4) (.const (.int .i64 (10)))), []⟩,
      ⟨(some 6), .plain (.bin .sub (.const (.int .i64 (48))) (.tmp 5)), []⟩,
      ⟨(some 7), .plain (.toInt .u8 (.tmp 6)), []⟩,
      ⟨(some 8), .plain (.lit 1 1 [(.int .u8 (0))] [(0, (.tmp 7))]), []⟩,
      ⟨(some 9), .plain (.toStr (.tmp 8)), []⟩,
      ⟨(some 3), .plain (.move (.tmp 9)), []⟩])
  (.seq (.seq (.region [⟨(some 10), .plain (.move (.tmp 0)), []⟩,
        ⟨(some 11), .plain (.bin .gtr (.tmp 10) (.const (.int .i64 (-10)))), []⟩])
    (.cond (.tmp 11) (.seq (.region [⟨(some 12), .plain (.move (.tmp 3)), []⟩,
          ⟨(some 2), .plain (.move (.tmp 12)), []⟩])
      (.ret))
    (.skip)))
  (.seq (.region [⟨(some 13), .plain (.move (.tmp 0)), []⟩,
      ⟨(some 14), .plain (.bin .quo (.tmp 13) (.const (.int .i64 (10)))), []⟩,
      ⟨(some 15), .call 46 [(.tmp 14)], []⟩,
      ⟨(some 16), .plain (.move (.tmp 3)), []⟩,
      ⟨(some 17), .plain (.bin .add (.tmp 15) (.tmp 16)), []⟩,
      ⟨(some 2), .plain (.move (.tmp 17)), []⟩])
  (.ret))))⟩
theorem comp46 : compF Tryd.prog an46 Tryd.f46 = some ir46 := by kernel_rfl
theorem lps46 : loopsF Tryd.prog an46 Tryd.f46 = [] := by kernel_rfl
/-- strings.IndexByte -/
def an50 : An := (.s .z (.s .z .z))
def ir50 : IFun := ⟨8, [.tmp 4],
  .seq (.region [⟨(some 4), .plain (.move (.const (.int .i64 (0)))), []⟩])
  (.seq (.region [⟨(some 5), .plain (.move (.tmp 0)), []⟩,
      ⟨(some 6), .plain (.move (.tmp 1)), []⟩,
      ⟨(some 7), .call 59 [(.tmp 5), (.tmp 6)], []⟩,
      ⟨(some 4), .plain (.move (.tmp 7)), []⟩])
  (.ret))⟩
theorem comp50 : compF Tryd.prog an50 Tryd.f50 = some ir50 := by kernel_rfl
theorem lps50 : loopsF Tryd.prog an50 Tryd.f50 = [] := by kernel_rfl
/-- internal/stringslite.HasPrefix -/
def an51 : An := (.s .z (.s .z .z))
def ir51 : IFun := ⟨18, [.tmp 4],
  .seq (.region [⟨(some 4), .plain (.move (.const (.bool false))), []⟩])
  (.seq (.region [⟨(some 5), .plain (.move (.tmp 0)), []⟩,
      ⟨(some 6), .plain (.len true (.tmp 5)), []⟩,
      ⟨(some 7), .plain (.move (.tmp 1)), []⟩,
      ⟨(some 8), .plain (.len true (.tmp 7)), []⟩,
      ⟨(some 9), .plain (.bin .geq (.tmp 6) (.tmp 8)), []⟩,
      ⟨(some 10), .plain (.move (.tmp 9)), []⟩,
      ⟨(some 11), .plain (.move (.tmp 0)), [(10, true)]⟩,
      ⟨(some 12), .plain (.move (.tmp 1)), [(10, true)]⟩,
      ⟨(some 13), .plain (.len true (.tmp 12)), [(10, true)]⟩,
      ⟨(some 14), .plain (.cutStr (.tmp 11) none (some (.tmp 13))), [(10, true)]⟩,
      ⟨(some 15), .plain (.move (.tmp 1)), [(10, true)]⟩,
      ⟨(some 16), .plain (.bin .eql (.tmp 14) (.tmp 15)), [(10, true)]⟩,
      ⟨(some 17), .plain (.pick (.tmp 10) (.tmp 16) (.const (.bool false))), []⟩,
      ⟨(some 4), .plain (.move (.tmp 17)), []⟩])
  (.ret))⟩
theorem comp51 : compF Tryd.prog an51 Tryd.f51 = some ir51 := by kernel_rfl
theorem lps51 : loopsF Tryd.prog an51 Tryd.f51 = [] := by kernel_rfl
/-- internal/stringslite.CutPrefix -/
def an54 : An := (.s .z (.s (.s .z (.s (.s .z .z) .z)) (.s .z .z)))
def ir54 : IFun := ⟨15, [.tmp 4, .tmp 5],
  .seq (.region [⟨(some 4), .plain (.move (.const (.string ⟨#[]⟩))), []⟩,
      ⟨(some 5), .plain (.move (.const (.bool false))), []⟩])
  (.seq (.seq (.region [⟨(some 6), .plain (.move (.tmp 0)), []⟩,
        ⟨(some 7), .plain (.move (.tmp 1)), []⟩,
        ⟨(some 8), .call 51 [(.tmp 6), (.tmp 7)], []⟩,
        ⟨(some 9), .plain (.un .not (.tmp 8)), []⟩])
    (.cond (.tmp 9) (.seq (.region [⟨(some 10), .plain (.move (.tmp 0)), []⟩,
          ⟨(some 4), .plain (.move (.tmp 10)), []⟩,
          ⟨(some 5), .plain (.move (.const (.bool false))), []⟩])
      (.ret))
    (.skip)))
  (.seq (.region [⟨(some 11), .plain (.move (.tmp 0)), []⟩,
      ⟨(some 12), .plain (.move (.tmp 1)), []⟩,
      ⟨(some 13), .plain (.len true (.tmp 12)), []⟩,
      ⟨(some 14), .plain (.cutStr (.tmp 11) (some (.tmp 13)) none), []⟩,
      ⟨(some 4), .plain (.move (.tmp 14)), []⟩,
      ⟨(some 5), .plain (.move (.const (.bool true))), []⟩])
  (.ret)))⟩
theorem comp54 : compF Tryd.prog an54 Tryd.f54 = some ir54 := by kernel_rfl
theorem lps54 : loopsF Tryd.prog an54 Tryd.f54 = [] := by kernel_rfl
def irsT : List (Nat × IFun) := [(3, ir3), (4, ir4), (5, ir5), (6, ir6), (7, ir7), (8, ir8), (9, ir9), (10, ir10), (11, ir11), (12, ir12), (13, ir13), (14, ir14), (15, ir15), (16, ir16), (17, ir17), (18, ir18), (19, ir19), (20, ir20), (21, ir21), (22, ir22), (23, ir23), (24, ir24), (25, ir25), (27, ir27), (28, ir28), (29, ir29), (30, ir30), (31, ir31), (32, ir32), (33, ir33), (34, ir34), (35, ir35), (36, ir36), (37, ir37), (38, ir38), (40, ir40), (41, ir41), (42, ir42), (43, ir43), (45, ir45), (46, ir46), (50, ir50), (51, ir51), (54, ir54)]
def lpsT : List (Nat × List Nat × IC) := [(1000, [2, 9, 10, 11], lb1000), (1100, [0, 2, 3, 4], lb1100), (1300, [0, 2, 3], lb1300), (2700, [1, 6, 19, 20, 21], lb2700), (3000, [0, 4, 11, 12, 13], lb3000), (3100, [0, 1, 4, 5, 6, 7], lb3100), (3400, [2, 3, 4, 5, 6, 7, 8, 31, 32], lb3400), (3600, [2, 3, 4, 5, 6], lb3600), (3601, [2, 3, 4, 5, 7, 8], lb3601), (3700, [0, 3, 4, 5], lb3700), (4100, [3, 8, 9, 10], lb4100), (4300, [0, 3, 4], lb4300)]
/-- The code, with what is given. -/
def CC (gv : FuncId → Option (List Value → Mem → Option (Value × Mem))) : Code? := ⟨look irsT, look lpsT, gv⟩
theorem CC_fit (gv : FuncId → Option (List Value → Mem → Option (Value × Mem))) : ∀ f fn, (CC gv).irs f = some fn → FitF Tryd.prog (CC gv) f fn := by
  intro f fn h
  have hm := look_mem h
  simp only [irsT, List.mem_cons, List.not_mem_nil, or_false, Prod.mk.injEq] at hm
  rcases hm with ⟨rfl, rfl⟩ | ⟨rfl, rfl⟩ | ⟨rfl, rfl⟩ | ⟨rfl, rfl⟩ | ⟨rfl, rfl⟩ | ⟨rfl, rfl⟩ | ⟨rfl, rfl⟩ | ⟨rfl, rfl⟩ | ⟨rfl, rfl⟩ | ⟨rfl, rfl⟩ | ⟨rfl, rfl⟩ | ⟨rfl, rfl⟩ | ⟨rfl, rfl⟩ | ⟨rfl, rfl⟩ | ⟨rfl, rfl⟩ | ⟨rfl, rfl⟩ | ⟨rfl, rfl⟩ | ⟨rfl, rfl⟩ | ⟨rfl, rfl⟩ | ⟨rfl, rfl⟩ | ⟨rfl, rfl⟩ | ⟨rfl, rfl⟩ | ⟨rfl, rfl⟩ | ⟨rfl, rfl⟩ | ⟨rfl, rfl⟩ | ⟨rfl, rfl⟩ | ⟨rfl, rfl⟩ | ⟨rfl, rfl⟩ | ⟨rfl, rfl⟩ | ⟨rfl, rfl⟩ | ⟨rfl, rfl⟩ | ⟨rfl, rfl⟩ | ⟨rfl, rfl⟩ | ⟨rfl, rfl⟩ | ⟨rfl, rfl⟩ | ⟨rfl, rfl⟩ | ⟨rfl, rfl⟩ | ⟨rfl, rfl⟩ | ⟨rfl, rfl⟩ | ⟨rfl, rfl⟩ | ⟨rfl, rfl⟩ | ⟨rfl, rfl⟩ | ⟨rfl, rfl⟩ | ⟨rfl, rfl⟩
  · exact compF_fit Tryd.func3 comp3 (by rw [lps3]; intro x hx; cases hx)
  · exact compF_fit Tryd.func4 comp4 (by rw [lps4]; intro x hx; cases hx)
  · exact compF_fit Tryd.func5 comp5 (by rw [lps5]; intro x hx; cases hx)
  · exact compF_fit Tryd.func6 comp6 (by rw [lps6]; intro x hx; cases hx)
  · exact compF_fit Tryd.func7 comp7 (by rw [lps7]; intro x hx; cases hx)
  · exact compF_fit Tryd.func8 comp8 (by rw [lps8]; intro x hx; cases hx)
  · exact compF_fit Tryd.func9 comp9 (by rw [lps9]; intro x hx; cases hx)
  · exact compF_fit Tryd.func10 comp10 (by rw [lps10]; intro x hx; simp only [List.mem_cons, List.not_mem_nil, or_false] at hx; rcases hx with rfl <;> exact ⟨_, rfl, rfl⟩)
  · exact compF_fit Tryd.func11 comp11 (by rw [lps11]; intro x hx; simp only [List.mem_cons, List.not_mem_nil, or_false] at hx; rcases hx with rfl <;> exact ⟨_, rfl, rfl⟩)
  · exact compF_fit Tryd.func12 comp12 (by rw [lps12]; intro x hx; cases hx)
  · exact compF_fit Tryd.func13 comp13 (by rw [lps13]; intro x hx; simp only [List.mem_cons, List.not_mem_nil, or_false] at hx; rcases hx with rfl <;> exact ⟨_, rfl, rfl⟩)
  · exact compF_fit Tryd.func14 comp14 (by rw [lps14]; intro x hx; cases hx)
  · exact compF_fit Tryd.func15 comp15 (by rw [lps15]; intro x hx; cases hx)
  · exact compF_fit Tryd.func16 comp16 (by rw [lps16]; intro x hx; cases hx)
  · exact compF_fit Tryd.func17 comp17 (by rw [lps17]; intro x hx; cases hx)
  · exact compF_fit Tryd.func18 comp18 (by rw [lps18]; intro x hx; cases hx)
  · exact compF_fit Tryd.func19 comp19 (by rw [lps19]; intro x hx; cases hx)
  · exact compF_fit Tryd.func20 comp20 (by rw [lps20]; intro x hx; cases hx)
  · exact compF_fit Tryd.func21 comp21 (by rw [lps21]; intro x hx; cases hx)
  · exact compF_fit Tryd.func22 comp22 (by rw [lps22]; intro x hx; cases hx)
  · exact compF_fit Tryd.func23 comp23 (by rw [lps23]; intro x hx; cases hx)
  · exact compF_fit Tryd.func24 comp24 (by rw [lps24]; intro x hx; cases hx)
  · exact compF_fit Tryd.func25 comp25 (by rw [lps25]; intro x hx; cases hx)
  · exact compF_fit Tryd.func27 comp27 (by rw [lps27]; intro x hx; simp only [List.mem_cons, List.not_mem_nil, or_false] at hx; rcases hx with rfl <;> exact ⟨_, rfl, rfl⟩)
  · exact compF_fit Tryd.func28 comp28 (by rw [lps28]; intro x hx; cases hx)
  · exact compF_fit Tryd.func29 comp29 (by rw [lps29]; intro x hx; cases hx)
  · exact compF_fit Tryd.func30 comp30 (by rw [lps30]; intro x hx; simp only [List.mem_cons, List.not_mem_nil, or_false] at hx; rcases hx with rfl <;> exact ⟨_, rfl, rfl⟩)
  · exact compF_fit Tryd.func31 comp31 (by rw [lps31]; intro x hx; simp only [List.mem_cons, List.not_mem_nil, or_false] at hx; rcases hx with rfl <;> exact ⟨_, rfl, rfl⟩)
  · exact compF_fit Tryd.func32 comp32 (by rw [lps32]; intro x hx; cases hx)
  · exact compF_fit Tryd.func33 comp33 (by rw [lps33]; intro x hx; cases hx)
  · exact compF_fit Tryd.func34 comp34 (by rw [lps34]; intro x hx; simp only [List.mem_cons, List.not_mem_nil, or_false] at hx; rcases hx with rfl <;> exact ⟨_, rfl, rfl⟩)
  · exact compF_fit Tryd.func35 comp35 (by rw [lps35]; intro x hx; cases hx)
  · exact compF_fit Tryd.func36 comp36 (by rw [lps36]; intro x hx; simp only [List.mem_cons, List.not_mem_nil, or_false] at hx; rcases hx with rfl | rfl <;> exact ⟨_, rfl, rfl⟩)
  · exact compF_fit Tryd.func37 comp37 (by rw [lps37]; intro x hx; simp only [List.mem_cons, List.not_mem_nil, or_false] at hx; rcases hx with rfl <;> exact ⟨_, rfl, rfl⟩)
  · exact compF_fit Tryd.func38 comp38 (by rw [lps38]; intro x hx; cases hx)
  · exact compF_fit Tryd.func40 comp40 (by rw [lps40]; intro x hx; cases hx)
  · exact compF_fit Tryd.func41 comp41 (by rw [lps41]; intro x hx; simp only [List.mem_cons, List.not_mem_nil, or_false] at hx; rcases hx with rfl <;> exact ⟨_, rfl, rfl⟩)
  · exact compF_fit Tryd.func42 comp42 (by rw [lps42]; intro x hx; cases hx)
  · exact compF_fit Tryd.func43 comp43 (by rw [lps43]; intro x hx; simp only [List.mem_cons, List.not_mem_nil, or_false] at hx; rcases hx with rfl <;> exact ⟨_, rfl, rfl⟩)
  · exact compF_fit Tryd.func45 comp45 (by rw [lps45]; intro x hx; cases hx)
  · exact compF_fit Tryd.func46 comp46 (by rw [lps46]; intro x hx; cases hx)
  · exact compF_fit Tryd.func50 comp50 (by rw [lps50]; intro x hx; cases hx)
  · exact compF_fit Tryd.func51 comp51 (by rw [lps51]; intro x hx; cases hx)
  · exact compF_fit Tryd.func54 comp54 (by rw [lps54]; intro x hx; cases hx)
end Go.Proofs.YtibklmjoepckdaaDoor.D
