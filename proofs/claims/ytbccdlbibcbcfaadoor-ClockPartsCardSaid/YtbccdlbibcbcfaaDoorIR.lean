/-
  The code that the statements reach, read: printed by Vtool, checked by the kernel.
-/
import Derived.Test.YtbccdlbibcbcfaaDoorD21
import Derived.Test.YtbccdlbibcbcfaaDoorProg
namespace Go.Proofs.YtbccdlbibcbcfaaDoor.D
open Go.RowKit
set_option maxRecDepth 100000
/-- noonmark/noonmarklaw05.ClockParses -/
def an3 : An := (.s .z (.s (.s .z (.s (.s .z .z) .z)) (.s .z (.s .z (.s .z (.s .z (.s .z .z)))))))
def ir3 : IFun := ⟨56, [.tmp 2],
  .seq (.region [⟨(some 2), .plain (.move (.const (.bool false))), []⟩])
  (.seq (.seq (.region [⟨(some 11), .plain (.move (.tmp 0)), []⟩,
        ⟨(some 12), .plain (.len true (.tmp 11)), []⟩,
        ⟨(some 13), .plain (.bin .gtr (.tmp 12) (.const (.int .i64 (500)))), []⟩])
    (.cond (.tmp 13) (.seq (.region [⟨(some 14), .call 8 [], []⟩,
          ⟨(some 2), .plain (.move (.tmp 14)), []⟩])
      (.ret))
    (.skip)))
  (.seq (.region [⟨(some 16), .plain (.move (.tmp 0)), []⟩,
      ⟨(some 17), .call 9 [(.tmp 16)], []⟩,
      ⟨(some 15), .plain (.move (.tmp 17)), []⟩,
      ⟨(some 18), .plain (.extract 0 (.tmp 15)), []⟩,
      ⟨(some 19), .plain (.extract 1 (.tmp 15)), []⟩,
      ⟨(some 3), .plain (.new 0 [(.int .i64 (0)), (.int .i64 (0))]), []⟩,
      ⟨none, .plain (.store 2 (.tmp 3) (.tmp 18)), []⟩,
      ⟨(some 4), .plain (.move (.tmp 19)), []⟩])
  (.seq (.region [⟨(some 21), .plain (.move (.tmp 0)), []⟩,
      ⟨(some 22), .call 10 [(.tmp 21)], []⟩,
      ⟨(some 20), .plain (.move (.tmp 22)), []⟩,
      ⟨(some 23), .plain (.extract 0 (.tmp 20)), []⟩,
      ⟨(some 24), .plain (.extract 1 (.tmp 20)), []⟩,
      ⟨(some 5), .plain (.new 0 [(.int .i64 (0)), (.int .i64 (0))]), []⟩,
      ⟨none, .plain (.store 2 (.tmp 5) (.tmp 23)), []⟩,
      ⟨(some 6), .plain (.move (.tmp 24)), []⟩])
  (.seq (.region [⟨(some 26), .plain (.move (.tmp 0)), []⟩,
      ⟨(some 27), .call 11 [(.tmp 26)], []⟩,
      ⟨(some 25), .plain (.move (.tmp 27)), []⟩,
      ⟨(some 28), .plain (.extract 0 (.tmp 25)), []⟩,
      ⟨(some 29), .plain (.extract 1 (.tmp 25)), []⟩,
      ⟨(some 7), .plain (.move (.tmp 28)), []⟩,
      ⟨(some 8), .plain (.move (.tmp 29)), []⟩])
  (.seq (.region [⟨(some 31), .plain (.move (.tmp 0)), []⟩,
      ⟨(some 32), .call 12 [(.tmp 31)], []⟩,
      ⟨(some 30), .plain (.move (.tmp 32)), []⟩,
      ⟨(some 33), .plain (.extract 0 (.tmp 30)), []⟩,
      ⟨(some 34), .plain (.extract 1 (.tmp 30)), []⟩,
      ⟨(some 9), .plain (.move (.tmp 33)), []⟩,
      ⟨(some 10), .plain (.move (.tmp 34)), []⟩])
  (.seq (.region [⟨(some 35), .plain (.load 2 true (.tmp 3)), []⟩,
      ⟨(some 36), .plain (.load 2 true (.tmp 5)), []⟩,
      ⟨(some 37), .plain (.eqS false [.int, .int] (.tmp 35) (.tmp 36)), []⟩,
      ⟨(some 38), .plain (.move (.tmp 37)), []⟩,
      ⟨(some 39), .plain (.move (.tmp 4)), [(38, true)]⟩,
      ⟨(some 40), .plain (.move (.tmp 6)), [(38, true)]⟩,
      ⟨(some 41), .plain (.bin .eql (.tmp 39) (.tmp 40)), [(38, true)]⟩,
      ⟨(some 42), .plain (.pick (.tmp 38) (.tmp 41) (.const (.bool false))), []⟩,
      ⟨(some 43), .plain (.move (.tmp 42)), []⟩,
      ⟨(some 44), .plain (.move (.tmp 7)), [(43, true)]⟩,
      ⟨(some 45), .plain (.move (.tmp 9)), [(43, true)]⟩,
      ⟨(some 46), .plain (.bin .eql (.tmp 44) (.tmp 45)), [(43, true)]⟩,
      ⟨(some 47), .plain (.pick (.tmp 43) (.tmp 46) (.const (.bool false))), []⟩,
      ⟨(some 48), .plain (.move (.tmp 47)), []⟩,
      ⟨(some 49), .plain (.move (.tmp 8)), [(48, true)]⟩,
      ⟨(some 50), .plain (.move (.tmp 10)), [(48, true)]⟩,
      ⟨(some 51), .plain (.bin .eql (.tmp 49) (.tmp 50)), [(48, true)]⟩,
      ⟨(some 52), .plain (.pick (.tmp 48) (.tmp 51) (.const (.bool false))), []⟩,
      ⟨(some 53), .plain (.move (.tmp 52)), []⟩,
      ⟨(some 54), .call 8 [], [(53, true)]⟩,
      ⟨(some 55), .plain (.pick (.tmp 53) (.tmp 54) (.const (.bool false))), []⟩,
      ⟨(some 2), .plain (.move (.tmp 55)), []⟩])
  (.ret)))))))⟩
theorem comp3 : compF Tryd.prog an3 Tryd.f3 = some ir3 := by kernel_rfl
theorem lps3 : loopsF Tryd.prog an3 Tryd.f3 = [] := by kernel_rfl
/-- noonmark/noonmarklaw05.ClockAgain -/
def an4 : An := (.s .z (.s (.s .z (.s (.s .z .z) .z)) (.s .z (.s (.s .z (.s (.s .z .z) .z)) (.s .z (.s .z (.s .z (.s .z .z))))))))
def ir4 : IFun := ⟨70, [.tmp 2],
  .seq (.region [⟨(some 2), .plain (.move (.const (.bool false))), []⟩])
  (.seq (.seq (.region [⟨(some 11), .plain (.move (.tmp 0)), []⟩,
        ⟨(some 12), .plain (.len true (.tmp 11)), []⟩,
        ⟨(some 13), .plain (.bin .gtr (.tmp 12) (.const (.int .i64 (500)))), []⟩])
    (.cond (.tmp 13) (.seq (.region [⟨(some 14), .call 8 [], []⟩,
          ⟨(some 2), .plain (.move (.tmp 14)), []⟩])
      (.ret))
    (.skip)))
  (.seq (.region [⟨(some 16), .plain (.move (.tmp 0)), []⟩,
      ⟨(some 17), .call 9 [(.tmp 16)], []⟩,
      ⟨(some 15), .plain (.move (.tmp 17)), []⟩,
      ⟨(some 18), .plain (.extract 0 (.tmp 15)), []⟩,
      ⟨(some 19), .plain (.extract 1 (.tmp 15)), []⟩,
      ⟨(some 3), .plain (.new 0 [(.int .i64 (0)), (.int .i64 (0))]), []⟩,
      ⟨none, .plain (.store 2 (.tmp 3) (.tmp 18)), []⟩,
      ⟨(some 4), .plain (.move (.tmp 19)), []⟩])
  (.seq (.seq (.region [⟨(some 20), .plain (.move (.tmp 4)), []⟩,
        ⟨(some 21), .plain (.bin .neq (.tmp 20) (.const (.int .i64 (0)))), []⟩])
    (.cond (.tmp 21) (.seq (.region [⟨(some 22), .plain (.load 2 true (.tmp 3)), []⟩,
          ⟨(some 23), .plain (.build [(0, 1), (1, 1)] [(.int .i64 (0)), (.int .i64 (0))] []), []⟩,
          ⟨(some 24), .plain (.eqS false [.int, .int] (.tmp 22) (.tmp 23)), []⟩,
          ⟨(some 25), .plain (.move (.tmp 24)), []⟩,
          ⟨(some 26), .plain (.move (.tmp 4)), [(25, true)]⟩,
          ⟨(some 27), .plain (.bin .eql (.tmp 26) (.const (.int .i64 (7)))), [(25, true)]⟩,
          ⟨(some 28), .plain (.pick (.tmp 25) (.tmp 27) (.const (.bool false))), []⟩,
          ⟨(some 29), .plain (.move (.tmp 28)), []⟩,
          ⟨(some 30), .call 8 [], [(29, true)]⟩,
          ⟨(some 31), .plain (.pick (.tmp 29) (.tmp 30) (.const (.bool false))), []⟩,
          ⟨(some 2), .plain (.move (.tmp 31)), []⟩])
      (.ret))
    (.skip)))
  (.seq (.region [⟨(some 33), .plain (.load 2 true (.tmp 3)), []⟩,
      ⟨(some 34), .call 13 [(.tmp 33)], []⟩,
      ⟨(some 32), .plain (.move (.tmp 34)), []⟩,
      ⟨(some 35), .plain (.extract 0 (.tmp 32)), []⟩,
      ⟨(some 36), .plain (.extract 1 (.tmp 32)), []⟩,
      ⟨(some 5), .plain (.move (.tmp 35)), []⟩,
      ⟨(some 6), .plain (.move (.tmp 36)), []⟩])
  (.seq (.region [⟨(some 38), .plain (.move (.tmp 5)), []⟩,
      ⟨(some 39), .call 9 [(.tmp 38)], []⟩,
      ⟨(some 37), .plain (.move (.tmp 39)), []⟩,
      ⟨(some 40), .plain (.extract 0 (.tmp 37)), []⟩,
      ⟨(some 41), .plain (.extract 1 (.tmp 37)), []⟩,
      ⟨(some 7), .plain (.new 0 [(.int .i64 (0)), (.int .i64 (0))]), []⟩,
      ⟨none, .plain (.store 2 (.tmp 7) (.tmp 40)), []⟩,
      ⟨(some 8), .plain (.move (.tmp 41)), []⟩])
  (.seq (.region [⟨(some 43), .plain (.load 2 true (.tmp 7)), []⟩,
      ⟨(some 44), .call 13 [(.tmp 43)], []⟩,
      ⟨(some 42), .plain (.move (.tmp 44)), []⟩,
      ⟨(some 45), .plain (.extract 0 (.tmp 42)), []⟩,
      ⟨(some 46), .plain (.extract 1 (.tmp 42)), []⟩,
      ⟨(some 9), .plain (.move (.tmp 45)), []⟩,
      ⟨(some 10), .plain (.move (.tmp 46)), []⟩])
  (.seq (.region [⟨(some 47), .plain (.move (.tmp 6)), []⟩,
      ⟨(some 48), .plain (.bin .eql (.tmp 47) (.const (.int .i64 (0)))), []⟩,
      ⟨(some 49), .plain (.move (.tmp 48)), []⟩,
      ⟨(some 50), .plain (.move (.tmp 8)), [(49, true)]⟩,
      ⟨(some 51), .plain (.bin .eql (.tmp 50) (.const (.int .i64 (0)))), [(49, true)]⟩,
      ⟨(some 52), .plain (.pick (.tmp 49) (.tmp 51) (.const (.bool false))), []⟩,
      ⟨(some 53), .plain (.move (.tmp 52)), []⟩,
      ⟨(some 54), .plain (.move (.tmp 10)), [(53, true)]⟩,
      ⟨(some 55), .plain (.bin .eql (.tmp 54) (.const (.int .i64 (0)))), [(53, true)]⟩,
      ⟨(some 56), .plain (.pick (.tmp 53) (.tmp 55) (.const (.bool false))), []⟩,
      ⟨(some 57), .plain (.move (.tmp 56)), []⟩,
      ⟨(some 58), .plain (.load 2 true (.tmp 3)), [(57, true)]⟩,
      ⟨(some 59), .plain (.load 2 true (.tmp 7)), [(57, true)]⟩,
      ⟨(some 60), .plain (.eqS false [.int, .int] (.tmp 58) (.tmp 59)), [(57, true)]⟩,
      ⟨(some 61), .plain (.pick (.tmp 57) (.tmp 60) (.const (.bool false))), []⟩,
      ⟨(some 62), .plain (.move (.tmp 61)), []⟩,
      ⟨(some 63), .plain (.move (.tmp 5)), [(62, true)]⟩,
      ⟨(some 64), .plain (.move (.tmp 9)), [(62, true)]⟩,
      ⟨(some 65), .plain (.bin .eql (.tmp 63) (.tmp 64)), [(62, true)]⟩,
      ⟨(some 66), .plain (.pick (.tmp 62) (.tmp 65) (.const (.bool false))), []⟩,
      ⟨(some 67), .plain (.move (.tmp 66)), []⟩,
      ⟨(some 68), .call 8 [], [(67, true)]⟩,
      ⟨(some 69), .plain (.pick (.tmp 67) (.tmp 68) (.const (.bool false))), []⟩,
      ⟨(some 2), .plain (.move (.tmp 69)), []⟩])
  (.ret))))))))⟩
theorem comp4 : compF Tryd.prog an4 Tryd.f4 = some ir4 := by kernel_rfl
theorem lps4 : loopsF Tryd.prog an4 Tryd.f4 = [] := by kernel_rfl
/-- noonmark/noonmarklaw05.ClockParts -/
def an5 : An := (.s .z (.s (.s .z (.s (.s .z .z) .z)) (.s .z (.s .z (.k [0, 1, 2, 11, 12] (.s .z (.s (.s .z .z) .z)) (.k [0, 1, 2, 11, 12] (.s .z (.s .z .z)) (.s .z (.s (.s .z (.b (.l 500 [10, 11, 12, 13] (.s (.s .z (.s .z .z)) (.s (.b (.s .z (.s .z (.s .z (.s (.s .z .z) .z))))) .z))))) (.s .z (.s .z .z))))))))))
def lb500 : IC :=
  .seq (.seq (.region [⟨(some 95), .plain (.move (.tmp 13)), []⟩,
        ⟨(some 96), .plain (.bin .lss (.tmp 95) (.const (.int .i64 (5)))), []⟩])
    (.cond (.tmp 96) (.skip)
    (.exit 0)))
  (.seq (.block 1 (.seq (.region [⟨(some 100), .plain (.move (.tmp 11)), []⟩,
          ⟨(some 101), .plain (.move (.tmp 13)), []⟩,
          ⟨(some 102), .plain (.move (.tmp 13)), []⟩,
          ⟨(some 103), .plain (.bin .add (.tmp 102) (.const (.int .i64 (1)))), []⟩,
          ⟨(some 104), .plain (.cutStr (.const (.string ⟨#[119, 115, 117, 103, 122]⟩)) (some (.tmp 101)) (some (.tmp 103))), []⟩,
          ⟨(some 105), .plain (.bin .add (.tmp 100) (.tmp 104)), []⟩,
          ⟨(some 106), .call 9 [(.tmp 105)], []⟩,
          ⟨(some 99), .plain (.move (.tmp 106)), []⟩,
          ⟨(some 107), .plain (.extract 0 (.tmp 99)), []⟩,
          ⟨(some 108), .plain (.extract 1 (.tmp 99)), []⟩,
          ⟨(some 14), .plain (.new 0 [(.int .i64 (0)), (.int .i64 (0))]), []⟩,
          ⟨none, .plain (.store 2 (.tmp 14) (.tmp 107)), []⟩,
          ⟨(some 15), .plain (.move (.tmp 108)), []⟩])
      (.seq (.region [⟨(some 109), .plain (.lit 1 5 [(.int .i64 (0))] [(0, (.const (.int .i64 (0)))), (1, (.const (.int .i64 (1)))), (2, (.const (.int .i64 (2)))), (3, (.const (.int .i64 (2)))), (4, (.const (.int .i64 (2))))]), []⟩,
          ⟨(some 110), .plain (.move (.tmp 13)), []⟩,
          ⟨(some 111), .plain (.idx 1 (.tmp 109) (.tmp 110)), []⟩,
          ⟨(some 112), .plain (.load 1 false (.tmp 111)), []⟩,
          ⟨(some 16), .plain (.move (.tmp 112)), []⟩])
      (.seq (.region [⟨(some 113), .plain (.move (.tmp 15)), []⟩,
          ⟨(some 114), .plain (.bin .neq (.tmp 113) (.const (.int .i64 (0)))), []⟩,
          ⟨(some 115), .plain (.move (.tmp 114)), []⟩,
          ⟨(some 116), .plain (.fieldAddr 0 (.tmp 14)), [(115, false)]⟩,
          ⟨(some 117), .plain (.load 1 false (.tmp 116)), [(115, false)]⟩,
          ⟨(some 118), .plain (.move (.tmp 12)), [(115, false)]⟩,
          ⟨(some 119), .plain (.bin .neq (.tmp 117) (.tmp 118)), [(115, false)]⟩,
          ⟨(some 120), .plain (.pick (.tmp 115) (.const (.bool true)) (.tmp 119)), []⟩,
          ⟨(some 121), .plain (.move (.tmp 120)), []⟩,
          ⟨(some 122), .plain (.fieldAddr 1 (.tmp 14)), [(121, false)]⟩,
          ⟨(some 123), .plain (.load 1 false (.tmp 122)), [(121, false)]⟩,
          ⟨(some 124), .plain (.move (.tmp 16)), [(121, false)]⟩,
          ⟨(some 125), .plain (.bin .neq (.tmp 123) (.tmp 124)), [(121, false)]⟩,
          ⟨(some 126), .plain (.pick (.tmp 121) (.const (.bool true)) (.tmp 125)), []⟩])
      (.cond (.tmp 126) (.seq (.region [⟨(some 10), .plain (.move (.const (.bool false))), []⟩])
        (.ret))
      (.skip))))))
  (.region [⟨(some 97), .plain (.move (.tmp 13)), []⟩,
    ⟨(some 98), .plain (.bin .add (.tmp 97) (.const (.int .i64 (1)))), []⟩,
    ⟨(some 13), .plain (.move (.tmp 98)), []⟩]))
def ir5 : IFun := ⟨148, [.tmp 10],
  .seq (.region [⟨(some 10), .plain (.move (.const (.bool false))), []⟩])
  (.seq (.seq (.region [⟨(some 19), .plain (.move (.tmp 0)), []⟩,
        ⟨(some 20), .plain (.bin .lss (.tmp 19) (.const (.int .i64 (0)))), []⟩,
        ⟨(some 21), .plain (.move (.tmp 20)), []⟩,
        ⟨(some 22), .plain (.move (.tmp 0)), [(21, false)]⟩,
        ⟨(some 23), .plain (.bin .gtr (.tmp 22) (.const (.int .i64 (167)))), [(21, false)]⟩,
        ⟨(some 24), .plain (.pick (.tmp 21) (.const (.bool true)) (.tmp 23)), []⟩,
        ⟨(some 25), .plain (.move (.tmp 24)), []⟩,
        ⟨(some 26), .plain (.move (.tmp 1)), [(25, false)]⟩,
        ⟨(some 27), .plain (.bin .lss (.tmp 26) (.const (.int .i64 (0)))), [(25, false)]⟩,
        ⟨(some 28), .plain (.pick (.tmp 25) (.const (.bool true)) (.tmp 27)), []⟩,
        ⟨(some 29), .plain (.move (.tmp 28)), []⟩,
        ⟨(some 30), .plain (.move (.tmp 1)), [(29, false)]⟩,
        ⟨(some 31), .plain (.bin .gtr (.tmp 30) (.const (.int .i64 (59)))), [(29, false)]⟩,
        ⟨(some 32), .plain (.pick (.tmp 29) (.const (.bool true)) (.tmp 31)), []⟩,
        ⟨(some 33), .plain (.move (.tmp 32)), []⟩,
        ⟨(some 34), .plain (.move (.tmp 2)), [(33, false)]⟩,
        ⟨(some 35), .plain (.bin .lss (.tmp 34) (.const (.int .i64 (0)))), [(33, false)]⟩,
        ⟨(some 36), .plain (.pick (.tmp 33) (.const (.bool true)) (.tmp 35)), []⟩,
        ⟨(some 37), .plain (.move (.tmp 36)), []⟩,
        ⟨(some 38), .plain (.move (.tmp 2)), [(37, false)]⟩,
        ⟨(some 39), .plain (.bin .gtr (.tmp 38) (.const (.int .i64 (59)))), [(37, false)]⟩,
        ⟨(some 40), .plain (.pick (.tmp 37) (.const (.bool true)) (.tmp 39)), []⟩,
        ⟨(some 41), .plain (.move (.tmp 40)), []⟩,
        ⟨(some 42), .plain (.move (.tmp 3)), [(41, false)]⟩,
        ⟨(some 43), .plain (.bin .lss (.tmp 42) (.const (.int .i64 (0)))), [(41, false)]⟩,
        ⟨(some 44), .plain (.pick (.tmp 41) (.const (.bool true)) (.tmp 43)), []⟩,
        ⟨(some 45), .plain (.move (.tmp 44)), []⟩,
        ⟨(some 46), .plain (.move (.tmp 3)), [(45, false)]⟩,
        ⟨(some 47), .plain (.bin .gtr (.tmp 46) (.const (.int .i64 (2)))), [(45, false)]⟩,
        ⟨(some 48), .plain (.pick (.tmp 45) (.const (.bool true)) (.tmp 47)), []⟩])
    (.cond (.tmp 48) (.seq (.region [⟨(some 49), .call 8 [], []⟩,
          ⟨(some 10), .plain (.move (.tmp 49)), []⟩])
      (.ret))
    (.skip)))
  (.seq (.region [⟨(some 11), .plain (.move (.const (.string ⟨#[]⟩))), []⟩])
  (.seq (.region [⟨(some 50), .plain (.move (.tmp 0)), []⟩,
      ⟨(some 51), .plain (.bin .mul (.tmp 50) (.const (.int .i64 (3600)))), []⟩,
      ⟨(some 52), .plain (.move (.tmp 1)), []⟩,
      ⟨(some 53), .plain (.bin .mul (.tmp 52) (.const (.int .i64 (60)))), []⟩,
      ⟨(some 54), .plain (.bin .add (.tmp 51) (.tmp 53)), []⟩,
      ⟨(some 55), .plain (.move (.tmp 2)), []⟩,
      ⟨(some 56), .plain (.bin .add (.tmp 54) (.tmp 55)), []⟩,
      ⟨(some 12), .plain (.move (.tmp 56)), []⟩])
  (.cut [0, 1, 2, 11, 12] (.seq (.region [⟨(some 57), .plain (.move (.tmp 4)), []⟩])
    (.cond (.tmp 57) (.seq (.region [⟨(some 11), .plain (.move (.const (.string ⟨#[45]⟩))), []⟩])
      (.region [⟨(some 58), .plain (.move (.tmp 12)), []⟩,
        ⟨(some 59), .plain (.un .neg (.tmp 58)), []⟩,
        ⟨(some 12), .plain (.move (.tmp 59)), []⟩]))
    (.skip)))
  (.cut [0, 1, 2, 11, 12] (.seq (.region [⟨(some 60), .plain (.move (.tmp 0)), []⟩,
        ⟨(some 61), .plain (.bin .gtr (.tmp 60) (.const (.int .i64 (99)))), []⟩])
    (.cond (.tmp 61) (.region [⟨(some 62), .plain (.move (.tmp 11)), []⟩,
        ⟨(some 63), .plain (.move (.tmp 0)), []⟩,
        ⟨(some 64), .plain (.bin .quo (.tmp 63) (.const (.int .i64 (100)))), []⟩,
        ⟨(some 65), .call 14 [(.tmp 64)], []⟩,
        ⟨(some 66), .plain (.bin .add (.tmp 62) (.tmp 65)), []⟩,
        ⟨(some 11), .plain (.move (.tmp 66)), []⟩])
    (.skip)))
  (.seq (.region [⟨(some 67), .plain (.move (.tmp 11)), []⟩,
      ⟨(some 68), .plain (.move (.tmp 0)), []⟩,
      ⟨(some 69), .plain (.bin .quo (.tmp 68) (.const (.int .i64 (10)))), []⟩,
      ⟨(some 70), .plain (.bin .rem (.tmp 69) (.const (.int .i64 (10)))), []⟩,
      ⟨(some 71), .call 14 [(.tmp 70)], []⟩,
      ⟨(some 72), .plain (.bin .add (.tmp 67) (.tmp 71)), []⟩,
      ⟨(some 73), .plain (.move (.tmp 0)), []⟩,
      ⟨(some 74), .plain (.bin .rem (.tmp 73) (.const (.int .i64 (10)))), []⟩,
      ⟨(some 75), .call 14 [(.tmp 74)], []⟩,
      ⟨(some 76), .plain (.bin .add (.tmp 72) (.tmp 75)), []⟩,
      ⟨(some 77), .plain (.bin .add (.tmp 76) (.const (.string ⟨#[58]⟩))), []⟩,
      ⟨(some 78), .plain (.move (.tmp 1)), []⟩,
      ⟨(some 79), .plain (.bin .quo (.tmp 78) (.const (.int .i64 (10)))), []⟩,
      ⟨(some 80), .call 14 [(.tmp 79)], []⟩,
      ⟨(some 81), .plain (.bin .add (.tmp 77) (.tmp 80)), []⟩,
      ⟨(some 82), .plain (.move (.tmp 1)), []⟩,
      ⟨(some 83), .plain (.bin .rem (.tmp 82) (.const (.int .i64 (10)))), []⟩,
      ⟨(some 84), .call 14 [(.tmp 83)], []⟩,
      ⟨(some 85), .plain (.bin .add (.tmp 81) (.tmp 84)), []⟩,
      ⟨(some 86), .plain (.bin .add (.tmp 85) (.const (.string ⟨#[58]⟩))), []⟩,
      ⟨(some 87), .plain (.move (.tmp 2)), []⟩,
      ⟨(some 88), .plain (.bin .quo (.tmp 87) (.const (.int .i64 (10)))), []⟩,
      ⟨(some 89), .call 14 [(.tmp 88)], []⟩,
      ⟨(some 90), .plain (.bin .add (.tmp 86) (.tmp 89)), []⟩,
      ⟨(some 91), .plain (.move (.tmp 2)), []⟩,
      ⟨(some 92), .plain (.bin .rem (.tmp 91) (.const (.int .i64 (10)))), []⟩,
      ⟨(some 93), .call 14 [(.tmp 92)], []⟩,
      ⟨(some 94), .plain (.bin .add (.tmp 90) (.tmp 93)), []⟩,
      ⟨(some 11), .plain (.move (.tmp 94)), []⟩])
  (.seq (.seq (.region [⟨(some 13), .plain (.move (.const (.int .i64 (0)))), []⟩])
    (.block 0 (.loop 500 [10, 11, 12, 13])))
  (.seq (.region [⟨(some 128), .plain (.move (.tmp 11)), []⟩,
      ⟨(some 129), .call 9 [(.tmp 128)], []⟩,
      ⟨(some 127), .plain (.move (.tmp 129)), []⟩,
      ⟨(some 130), .plain (.extract 0 (.tmp 127)), []⟩,
      ⟨(some 131), .plain (.extract 1 (.tmp 127)), []⟩,
      ⟨(some 17), .plain (.new 0 [(.int .i64 (0)), (.int .i64 (0))]), []⟩,
      ⟨none, .plain (.store 2 (.tmp 17) (.tmp 130)), []⟩,
      ⟨(some 18), .plain (.move (.tmp 131)), []⟩])
  (.seq (.region [⟨(some 132), .plain (.move (.tmp 18)), []⟩,
      ⟨(some 133), .plain (.bin .eql (.tmp 132) (.const (.int .i64 (0)))), []⟩,
      ⟨(some 134), .plain (.move (.tmp 133)), []⟩,
      ⟨(some 135), .plain (.fieldAddr 0 (.tmp 17)), [(134, true)]⟩,
      ⟨(some 136), .plain (.load 1 false (.tmp 135)), [(134, true)]⟩,
      ⟨(some 137), .plain (.move (.tmp 12)), [(134, true)]⟩,
      ⟨(some 138), .plain (.bin .eql (.tmp 136) (.tmp 137)), [(134, true)]⟩,
      ⟨(some 139), .plain (.pick (.tmp 134) (.tmp 138) (.const (.bool false))), []⟩,
      ⟨(some 140), .plain (.move (.tmp 139)), []⟩,
      ⟨(some 141), .plain (.fieldAddr 1 (.tmp 17)), [(140, true)]⟩,
      ⟨(some 142), .plain (.load 1 false (.tmp 141)), [(140, true)]⟩,
      ⟨(some 143), .plain (.bin .eql (.tmp 142) (.const (.int .i64 (0)))), [(140, true)]⟩,
      ⟨(some 144), .plain (.pick (.tmp 140) (.tmp 143) (.const (.bool false))), []⟩,
      ⟨(some 145), .plain (.move (.tmp 144)), []⟩,
      ⟨(some 146), .call 8 [], [(145, true)]⟩,
      ⟨(some 147), .plain (.pick (.tmp 145) (.tmp 146) (.const (.bool false))), []⟩,
      ⟨(some 10), .plain (.move (.tmp 147)), []⟩])
  (.ret))))))))))⟩
theorem comp5 : compF Tryd.prog an5 Tryd.f5 = some ir5 := by kernel_rfl
theorem lps5 : loopsF Tryd.prog an5 Tryd.f5 = [(500, [10, 11, 12, 13], some lb500)] := by kernel_rfl
/-- noonmark/noonmarklaw05.ClockShows -/
def an6 : An := (.s .z (.s .z (.s .z (.s .z (.s .z (.s .z .z))))))
def ir6 : IFun := ⟨54, [.tmp 4],
  .seq (.region [⟨(some 2), .plain (.box 0 (.tmp 0)), []⟩,
      ⟨(some 4), .plain (.move (.const (.bool false))), []⟩])
  (.seq (.region [⟨(some 14), .plain (.load 2 true (.tmp 2)), []⟩,
      ⟨(some 15), .call 13 [(.tmp 14)], []⟩,
      ⟨(some 13), .plain (.move (.tmp 15)), []⟩,
      ⟨(some 16), .plain (.extract 0 (.tmp 13)), []⟩,
      ⟨(some 17), .plain (.extract 1 (.tmp 13)), []⟩,
      ⟨(some 5), .plain (.move (.tmp 16)), []⟩,
      ⟨(some 6), .plain (.move (.tmp 17)), []⟩])
  (.seq (.region [⟨(some 19), .plain (.load 2 true (.tmp 2)), []⟩,
      ⟨(some 20), .call 15 [(.tmp 19)], []⟩,
      ⟨(some 18), .plain (.move (.tmp 20)), []⟩,
      ⟨(some 21), .plain (.extract 0 (.tmp 18)), []⟩,
      ⟨(some 22), .plain (.extract 1 (.tmp 18)), []⟩,
      ⟨(some 7), .plain (.move (.tmp 21)), []⟩,
      ⟨(some 8), .plain (.move (.tmp 22)), []⟩])
  (.seq (.region [⟨(some 24), .plain (.move (.tmp 1)), []⟩,
      ⟨(some 25), .call 16 [(.tmp 24)], []⟩,
      ⟨(some 23), .plain (.move (.tmp 25)), []⟩,
      ⟨(some 26), .plain (.extract 0 (.tmp 23)), []⟩,
      ⟨(some 27), .plain (.extract 1 (.tmp 23)), []⟩,
      ⟨(some 9), .plain (.move (.tmp 26)), []⟩,
      ⟨(some 10), .plain (.move (.tmp 27)), []⟩])
  (.seq (.region [⟨(some 29), .plain (.move (.tmp 1)), []⟩,
      ⟨(some 30), .call 17 [(.tmp 29)], []⟩,
      ⟨(some 28), .plain (.move (.tmp 30)), []⟩,
      ⟨(some 31), .plain (.extract 0 (.tmp 28)), []⟩,
      ⟨(some 32), .plain (.extract 1 (.tmp 28)), []⟩,
      ⟨(some 11), .plain (.move (.tmp 31)), []⟩,
      ⟨(some 12), .plain (.move (.tmp 32)), []⟩])
  (.seq (.region [⟨(some 33), .plain (.move (.tmp 5)), []⟩,
      ⟨(some 34), .plain (.move (.tmp 7)), []⟩,
      ⟨(some 35), .plain (.bin .eql (.tmp 33) (.tmp 34)), []⟩,
      ⟨(some 36), .plain (.move (.tmp 35)), []⟩,
      ⟨(some 37), .plain (.move (.tmp 6)), [(36, true)]⟩,
      ⟨(some 38), .plain (.move (.tmp 8)), [(36, true)]⟩,
      ⟨(some 39), .plain (.bin .eql (.tmp 37) (.tmp 38)), [(36, true)]⟩,
      ⟨(some 40), .plain (.pick (.tmp 36) (.tmp 39) (.const (.bool false))), []⟩,
      ⟨(some 41), .plain (.move (.tmp 40)), []⟩,
      ⟨(some 42), .plain (.move (.tmp 9)), [(41, true)]⟩,
      ⟨(some 43), .plain (.move (.tmp 11)), [(41, true)]⟩,
      ⟨(some 44), .plain (.bin .eql (.tmp 42) (.tmp 43)), [(41, true)]⟩,
      ⟨(some 45), .plain (.pick (.tmp 41) (.tmp 44) (.const (.bool false))), []⟩,
      ⟨(some 46), .plain (.move (.tmp 45)), []⟩,
      ⟨(some 47), .plain (.move (.tmp 10)), [(46, true)]⟩,
      ⟨(some 48), .plain (.move (.tmp 12)), [(46, true)]⟩,
      ⟨(some 49), .plain (.bin .eql (.tmp 47) (.tmp 48)), [(46, true)]⟩,
      ⟨(some 50), .plain (.pick (.tmp 46) (.tmp 49) (.const (.bool false))), []⟩,
      ⟨(some 51), .plain (.move (.tmp 50)), []⟩,
      ⟨(some 52), .call 8 [], [(51, true)]⟩,
      ⟨(some 53), .plain (.pick (.tmp 51) (.tmp 52) (.const (.bool false))), []⟩,
      ⟨(some 4), .plain (.move (.tmp 53)), []⟩])
  (.ret))))))⟩
theorem comp6 : compF Tryd.prog an6 Tryd.f6 = some ir6 := by kernel_rfl
theorem lps6 : loopsF Tryd.prog an6 Tryd.f6 = [] := by kernel_rfl
/-- noonmark/noonmarklaw05.ClockBack -/
def an7 : An := (.s .z (.s .z (.k [1, 4] (.s .z (.s (.s .z (.s .z (.s (.s .z .z) .z))) .z)) (.s .z (.k [1, 4, 10] (.s .z (.s (.s .z (.s .z (.s (.s .z .z) .z))) .z)) (.s .z .z))))))
def ir7 : IFun := ⟨63, [.tmp 4],
  .seq (.region [⟨(some 2), .plain (.box 0 (.tmp 0)), []⟩,
      ⟨(some 4), .plain (.move (.const (.bool false))), []⟩])
  (.seq (.region [⟨(some 14), .plain (.load 2 true (.tmp 2)), []⟩,
      ⟨(some 15), .call 13 [(.tmp 14)], []⟩,
      ⟨(some 13), .plain (.move (.tmp 15)), []⟩,
      ⟨(some 16), .plain (.extract 0 (.tmp 13)), []⟩,
      ⟨(some 17), .plain (.extract 1 (.tmp 13)), []⟩,
      ⟨(some 5), .plain (.move (.tmp 16)), []⟩,
      ⟨(some 6), .plain (.move (.tmp 17)), []⟩])
  (.cut [1, 4] (.seq (.region [⟨(some 18), .plain (.move (.tmp 6)), []⟩,
        ⟨(some 19), .plain (.bin .eql (.tmp 18) (.const (.int .i64 (0)))), []⟩])
    (.cond (.tmp 19) (.seq (.region [⟨(some 21), .plain (.move (.tmp 5)), []⟩,
          ⟨(some 22), .call 9 [(.tmp 21)], []⟩,
          ⟨(some 20), .plain (.move (.tmp 22)), []⟩,
          ⟨(some 23), .plain (.extract 0 (.tmp 20)), []⟩,
          ⟨(some 24), .plain (.extract 1 (.tmp 20)), []⟩,
          ⟨(some 7), .plain (.new 0 [(.int .i64 (0)), (.int .i64 (0))]), []⟩,
          ⟨none, .plain (.store 2 (.tmp 7) (.tmp 23)), []⟩,
          ⟨(some 8), .plain (.move (.tmp 24)), []⟩])
      (.seq (.region [⟨(some 25), .plain (.move (.tmp 8)), []⟩,
          ⟨(some 26), .plain (.bin .neq (.tmp 25) (.const (.int .i64 (0)))), []⟩,
          ⟨(some 27), .plain (.move (.tmp 26)), []⟩,
          ⟨(some 28), .plain (.load 2 true (.tmp 7)), [(27, false)]⟩,
          ⟨(some 29), .plain (.load 2 true (.tmp 2)), [(27, false)]⟩,
          ⟨(some 30), .plain (.eqS true [.int, .int] (.tmp 28) (.tmp 29)), [(27, false)]⟩,
          ⟨(some 31), .plain (.pick (.tmp 27) (.const (.bool true)) (.tmp 30)), []⟩])
      (.cond (.tmp 31) (.seq (.region [⟨(some 4), .plain (.move (.const (.bool false))), []⟩])
        (.ret))
      (.skip))))
    (.skip)))
  (.seq (.region [⟨(some 33), .plain (.move (.tmp 1)), []⟩,
      ⟨(some 34), .call 16 [(.tmp 33)], []⟩,
      ⟨(some 32), .plain (.move (.tmp 34)), []⟩,
      ⟨(some 35), .plain (.extract 0 (.tmp 32)), []⟩,
      ⟨(some 36), .plain (.extract 1 (.tmp 32)), []⟩,
      ⟨(some 9), .plain (.move (.tmp 35)), []⟩,
      ⟨(some 10), .plain (.move (.tmp 36)), []⟩])
  (.cut [1, 4, 10] (.seq (.region [⟨(some 37), .plain (.move (.tmp 10)), []⟩,
        ⟨(some 38), .plain (.bin .eql (.tmp 37) (.const (.int .i64 (0)))), []⟩])
    (.cond (.tmp 38) (.seq (.region [⟨(some 40), .plain (.move (.tmp 9)), []⟩,
          ⟨(some 41), .call 11 [(.tmp 40)], []⟩,
          ⟨(some 39), .plain (.move (.tmp 41)), []⟩,
          ⟨(some 42), .plain (.extract 0 (.tmp 39)), []⟩,
          ⟨(some 43), .plain (.extract 1 (.tmp 39)), []⟩,
          ⟨(some 11), .plain (.move (.tmp 42)), []⟩,
          ⟨(some 12), .plain (.move (.tmp 43)), []⟩])
      (.seq (.region [⟨(some 44), .plain (.move (.tmp 12)), []⟩,
          ⟨(some 45), .plain (.bin .neq (.tmp 44) (.const (.int .i64 (0)))), []⟩,
          ⟨(some 46), .plain (.move (.tmp 45)), []⟩,
          ⟨(some 47), .plain (.move (.tmp 11)), [(46, false)]⟩,
          ⟨(some 48), .plain (.move (.tmp 1)), [(46, false)]⟩,
          ⟨(some 49), .plain (.bin .neq (.tmp 47) (.tmp 48)), [(46, false)]⟩,
          ⟨(some 50), .plain (.pick (.tmp 46) (.const (.bool true)) (.tmp 49)), []⟩])
      (.cond (.tmp 50) (.seq (.region [⟨(some 4), .plain (.move (.const (.bool false))), []⟩])
        (.ret))
      (.skip))))
    (.skip)))
  (.seq (.region [⟨(some 51), .plain (.move (.tmp 10)), []⟩,
      ⟨(some 52), .plain (.bin .eql (.tmp 51) (.const (.int .i64 (0)))), []⟩,
      ⟨(some 53), .plain (.move (.tmp 1)), []⟩,
      ⟨(some 54), .plain (.bin .geq (.tmp 53) (.const (.int .i64 (-86400)))), []⟩,
      ⟨(some 55), .plain (.move (.tmp 54)), []⟩,
      ⟨(some 56), .plain (.move (.tmp 1)), [(55, true)]⟩,
      ⟨(some 57), .plain (.bin .leq (.tmp 56) (.const (.int .i64 (86400)))), [(55, true)]⟩,
      ⟨(some 58), .plain (.pick (.tmp 55) (.tmp 57) (.const (.bool false))), []⟩,
      ⟨(some 59), .plain (.eqB false (.tmp 52) (.tmp 58)), []⟩,
      ⟨(some 60), .plain (.move (.tmp 59)), []⟩,
      ⟨(some 61), .call 8 [], [(60, true)]⟩,
      ⟨(some 62), .plain (.pick (.tmp 60) (.tmp 61) (.const (.bool false))), []⟩,
      ⟨(some 4), .plain (.move (.tmp 62)), []⟩])
  (.ret))))))⟩
theorem comp7 : compF Tryd.prog an7 Tryd.f7 = some ir7 := by kernel_rfl
theorem lps7 : loopsF Tryd.prog an7 Tryd.f7 = [] := by kernel_rfl
/-- noonmark/noonmarklaw05.alive -/
def an8 : An := (.s .z (.s .z (.s .z (.s .z (.s .z (.s .z .z))))))
def ir8 : IFun := ⟨58, [.tmp 0],
  .seq (.region [⟨(some 0), .plain (.move (.const (.bool false))), []⟩])
  (.seq (.region [⟨(some 10), .call 9 [(.const (.string ⟨#[50, 58, 48, 48, 115]⟩))], []⟩,
      ⟨(some 9), .plain (.move (.tmp 10)), []⟩,
      ⟨(some 11), .plain (.extract 0 (.tmp 9)), []⟩,
      ⟨(some 12), .plain (.extract 1 (.tmp 9)), []⟩,
      ⟨(some 1), .plain (.new 0 [(.int .i64 (0)), (.int .i64 (0))]), []⟩,
      ⟨none, .plain (.store 2 (.tmp 1) (.tmp 11)), []⟩,
      ⟨(some 2), .plain (.move (.tmp 12)), []⟩])
  (.seq (.region [⟨(some 14), .call 11 [(.const (.string ⟨#[45, 49, 58, 51, 48]⟩))], []⟩,
      ⟨(some 13), .plain (.move (.tmp 14)), []⟩,
      ⟨(some 15), .plain (.extract 0 (.tmp 13)), []⟩,
      ⟨(some 16), .plain (.extract 1 (.tmp 13)), []⟩,
      ⟨(some 3), .plain (.move (.tmp 15)), []⟩,
      ⟨(some 4), .plain (.move (.tmp 16)), []⟩])
  (.seq (.region [⟨(some 18), .call 9 [(.const (.string ⟨#[50, 54]⟩))], []⟩,
      ⟨(some 17), .plain (.move (.tmp 18)), []⟩,
      ⟨(some 19), .plain (.extract 0 (.tmp 17)), []⟩,
      ⟨(some 20), .plain (.extract 1 (.tmp 17)), []⟩,
      ⟨(some 5), .plain (.new 0 [(.int .i64 (0)), (.int .i64 (0))]), []⟩,
      ⟨none, .plain (.store 2 (.tmp 5) (.tmp 19)), []⟩,
      ⟨(some 6), .plain (.move (.tmp 20)), []⟩])
  (.seq (.region [⟨(some 22), .plain (.build [(0, 1), (1, 1)] [(.int .i64 (0)), (.int .i64 (0))] [(0, (.const (.int .i64 (7200)))), (1, (.const (.int .i64 (1))))]), []⟩,
      ⟨(some 23), .call 13 [(.tmp 22)], []⟩,
      ⟨(some 21), .plain (.move (.tmp 23)), []⟩,
      ⟨(some 24), .plain (.extract 0 (.tmp 21)), []⟩,
      ⟨(some 25), .plain (.extract 1 (.tmp 21)), []⟩,
      ⟨(some 7), .plain (.move (.tmp 24)), []⟩,
      ⟨(some 8), .plain (.move (.tmp 25)), []⟩])
  (.seq (.region [⟨(some 26), .plain (.load 2 true (.tmp 1)), []⟩,
      ⟨(some 27), .plain (.build [(0, 1), (1, 1)] [(.int .i64 (0)), (.int .i64 (0))] [(0, (.const (.int .i64 (7200)))), (1, (.const (.int .i64 (1))))]), []⟩,
      ⟨(some 28), .plain (.eqS false [.int, .int] (.tmp 26) (.tmp 27)), []⟩,
      ⟨(some 29), .plain (.move (.tmp 28)), []⟩,
      ⟨(some 30), .plain (.move (.tmp 2)), [(29, true)]⟩,
      ⟨(some 31), .plain (.bin .eql (.tmp 30) (.const (.int .i64 (0)))), [(29, true)]⟩,
      ⟨(some 32), .plain (.pick (.tmp 29) (.tmp 31) (.const (.bool false))), []⟩,
      ⟨(some 33), .plain (.move (.tmp 32)), []⟩,
      ⟨(some 34), .plain (.move (.tmp 3)), [(33, true)]⟩,
      ⟨(some 35), .plain (.bin .eql (.tmp 34) (.const (.int .i64 (-5400)))), [(33, true)]⟩,
      ⟨(some 36), .plain (.pick (.tmp 33) (.tmp 35) (.const (.bool false))), []⟩,
      ⟨(some 37), .plain (.move (.tmp 36)), []⟩,
      ⟨(some 38), .plain (.move (.tmp 4)), [(37, true)]⟩,
      ⟨(some 39), .plain (.bin .eql (.tmp 38) (.const (.int .i64 (0)))), [(37, true)]⟩,
      ⟨(some 40), .plain (.pick (.tmp 37) (.tmp 39) (.const (.bool false))), []⟩,
      ⟨(some 41), .plain (.move (.tmp 40)), []⟩,
      ⟨(some 42), .plain (.fieldAddr 0 (.tmp 5)), [(41, true)]⟩,
      ⟨(some 43), .plain (.load 1 false (.tmp 42)), [(41, true)]⟩,
      ⟨(some 44), .plain (.bin .eql (.tmp 43) (.const (.int .i64 (93600)))), [(41, true)]⟩,
      ⟨(some 45), .plain (.pick (.tmp 41) (.tmp 44) (.const (.bool false))), []⟩,
      ⟨(some 46), .plain (.move (.tmp 45)), []⟩,
      ⟨(some 47), .plain (.move (.tmp 6)), [(46, true)]⟩,
      ⟨(some 48), .plain (.bin .eql (.tmp 47) (.const (.int .i64 (0)))), [(46, true)]⟩,
      ⟨(some 49), .plain (.pick (.tmp 46) (.tmp 48) (.const (.bool false))), []⟩,
      ⟨(some 50), .plain (.move (.tmp 49)), []⟩,
      ⟨(some 51), .plain (.move (.tmp 7)), [(50, true)]⟩,
      ⟨(some 52), .plain (.bin .eql (.tmp 51) (.const (.string ⟨#[50, 58, 48, 48, 115]⟩))), [(50, true)]⟩,
      ⟨(some 53), .plain (.pick (.tmp 50) (.tmp 52) (.const (.bool false))), []⟩,
      ⟨(some 54), .plain (.move (.tmp 53)), []⟩,
      ⟨(some 55), .plain (.move (.tmp 8)), [(54, true)]⟩,
      ⟨(some 56), .plain (.bin .eql (.tmp 55) (.const (.int .i64 (0)))), [(54, true)]⟩,
      ⟨(some 57), .plain (.pick (.tmp 54) (.tmp 56) (.const (.bool false))), []⟩,
      ⟨(some 0), .plain (.move (.tmp 57)), []⟩])
  (.ret))))))⟩
theorem comp8 : compF Tryd.prog an8 Tryd.f8 = some ir8 := by kernel_rfl
theorem lps8 : loopsF Tryd.prog an8 Tryd.f8 = [] := by kernel_rfl
/-- noonmark/clock.Parse -/
def an9 : An := (.s .z (.s .z (.s (.s .z (.s (.s .z .z) .z)) (.s .z (.s (.s .z (.s (.s .z .z) .z)) (.s .z .z))))))
def ir9 : IFun := ⟨33, [.cell 2 2 true, .tmp 3],
  .seq (.region [⟨(some 2), .plain (.new 0 [(.int .i64 (0)), (.int .i64 (0))]), []⟩,
      ⟨(some 3), .plain (.move (.const (.int .i64 (0)))), []⟩])
  (.seq (.region [⟨(some 9), .plain (.move (.tmp 0)), []⟩,
      ⟨(some 10), .call 18 [(.tmp 9)], []⟩,
      ⟨(some 8), .plain (.move (.tmp 10)), []⟩,
      ⟨(some 11), .plain (.extract 0 (.tmp 8)), []⟩,
      ⟨(some 12), .plain (.extract 1 (.tmp 8)), []⟩,
      ⟨(some 4), .plain (.move (.tmp 11)), []⟩,
      ⟨(some 5), .plain (.move (.tmp 12)), []⟩])
  (.seq (.seq (.region [⟨(some 13), .plain (.move (.tmp 4)), []⟩,
        ⟨(some 14), .plain (.bin .eql (.tmp 13) (.const (.string ⟨#[45]⟩))), []⟩,
        ⟨(some 15), .plain (.move (.tmp 14)), []⟩,
        ⟨(some 16), .plain (.move (.tmp 0)), [(15, true)]⟩,
        ⟨(some 17), .plain (.move (.tmp 4)), [(15, true)]⟩,
        ⟨(some 18), .plain (.bin .neq (.tmp 16) (.tmp 17)), [(15, true)]⟩,
        ⟨(some 19), .plain (.pick (.tmp 15) (.tmp 18) (.const (.bool false))), []⟩])
    (.cond (.tmp 19) (.seq (.region [⟨(some 20), .plain (.build [(0, 1), (1, 1)] [(.int .i64 (0)), (.int .i64 (0))] []), []⟩,
          ⟨none, .plain (.store 2 (.tmp 2) (.tmp 20)), []⟩,
          ⟨(some 3), .plain (.move (.const (.int .i64 (7)))), []⟩])
      (.ret))
    (.skip)))
  (.seq (.region [⟨(some 22), .plain (.move (.tmp 4)), []⟩,
      ⟨(some 23), .call 19 [(.tmp 22)], []⟩,
      ⟨(some 21), .plain (.move (.tmp 23)), []⟩,
      ⟨(some 24), .plain (.extract 0 (.tmp 21)), []⟩,
      ⟨(some 25), .plain (.extract 1 (.tmp 21)), []⟩,
      ⟨(some 6), .plain (.move (.tmp 24)), []⟩,
      ⟨(some 7), .plain (.move (.tmp 25)), []⟩])
  (.seq (.seq (.region [⟨(some 26), .plain (.move (.tmp 7)), []⟩,
        ⟨(some 27), .plain (.bin .neq (.tmp 26) (.const (.int .i64 (0)))), []⟩])
    (.cond (.tmp 27) (.seq (.region [⟨(some 28), .plain (.build [(0, 1), (1, 1)] [(.int .i64 (0)), (.int .i64 (0))] []), []⟩,
          ⟨(some 29), .plain (.move (.tmp 7)), []⟩,
          ⟨none, .plain (.store 2 (.tmp 2) (.tmp 28)), []⟩,
          ⟨(some 3), .plain (.move (.tmp 29)), []⟩])
      (.ret))
    (.skip)))
  (.seq (.region [⟨(some 30), .plain (.move (.tmp 6)), []⟩,
      ⟨(some 31), .plain (.move (.tmp 5)), []⟩,
      ⟨(some 32), .plain (.build [(0, 1), (1, 1)] [(.int .i64 (0)), (.int .i64 (0))] [(0, (.tmp 30)), (1, (.tmp 31))]), []⟩,
      ⟨none, .plain (.store 2 (.tmp 2) (.tmp 32)), []⟩,
      ⟨(some 3), .plain (.move (.const (.int .i64 (0)))), []⟩])
  (.ret))))))⟩
theorem comp9 : compF Tryd.prog an9 Tryd.f9 = some ir9 := by kernel_rfl
theorem lps9 : loopsF Tryd.prog an9 Tryd.f9 = [] := by kernel_rfl
/-- noonmark/noonmarkref05.Parse -/
def an10 : An := (.s .z (.s .z (.k [0, 2, 3, 4] (.s .z (.s (.s .z (.k [0, 2, 4, 5] (.s .z (.b (.s .z (.s .z (.s .z (.s .z (.s (.s .z (.s .z (.s .z (.s .z .z)))) (.s .z .z)))))))) (.s .z (.s (.s .z (.s .z (.s (.s .z .z) .z))) .z)))) .z)) (.s .z (.s (.s .z (.s (.s .z .z) .z)) (.s .z .z))))))
def ir10 : IFun := ⟨48, [.cell 2 2 true, .tmp 3],
  .seq (.region [⟨(some 2), .plain (.new 0 [(.int .i64 (0)), (.int .i64 (0))]), []⟩,
      ⟨(some 3), .plain (.move (.const (.int .i64 (0)))), []⟩])
  (.seq (.region [⟨(some 4), .plain (.move (.const (.int .i64 (0)))), []⟩])
  (.cut [0, 2, 3, 4] (.seq (.region [⟨(some 8), .plain (.move (.tmp 0)), []⟩,
        ⟨(some 9), .plain (.len true (.tmp 8)), []⟩,
        ⟨(some 10), .plain (.bin .gtr (.tmp 9) (.const (.int .i64 (1)))), []⟩,
        ⟨(some 11), .plain (.move (.tmp 10)), []⟩,
        ⟨(some 12), .plain (.move (.tmp 0)), [(11, true)]⟩,
        ⟨(some 13), .plain (.bin .neq (.tmp 12) (.const (.string ⟨#[45]⟩))), [(11, true)]⟩,
        ⟨(some 14), .plain (.pick (.tmp 11) (.tmp 13) (.const (.bool false))), []⟩])
    (.cond (.tmp 14) (.seq (.region [⟨(some 5), .plain (.move (.const (.bool true))), []⟩])
      (.cut [0, 2, 4, 5] (.seq (.region [⟨(some 15), .plain (.move (.tmp 0)), []⟩,
            ⟨(some 16), .plain (.move (.tmp 0)), []⟩,
            ⟨(some 17), .plain (.len true (.tmp 16)), []⟩,
            ⟨(some 18), .plain (.bin .sub (.tmp 17) (.const (.int .i64 (1)))), []⟩,
            ⟨(some 19), .plain (.byte (.tmp 15) (.tmp 18)), []⟩])
        (.block 0 (.seq (.region [⟨(some 21), .plain (.bin .eql (.tmp 19) (.const (.int .u8 (119)))), []⟩,
              ⟨(some 20), .plain (.move (.tmp 21)), []⟩])
          (.cond (.tmp 20) (.skip)
          (.seq (.region [⟨(some 23), .plain (.bin .eql (.tmp 19) (.const (.int .u8 (115)))), []⟩,
                ⟨(some 22), .plain (.move (.tmp 23)), []⟩])
            (.cond (.tmp 22) (.region [⟨(some 4), .plain (.move (.const (.int .i64 (1)))), []⟩])
            (.seq (.seq (.region [⟨(some 25), .plain (.bin .eql (.tmp 19) (.const (.int .u8 (117)))), []⟩,
                    ⟨(some 24), .plain (.move (.tmp 25)), []⟩])
                (.cond (.tmp 24) (.skip)
                (.seq (.region [⟨(some 26), .plain (.bin .eql (.tmp 19) (.const (.int .u8 (103)))), []⟩,
                      ⟨(some 24), .plain (.move (.tmp 26)), []⟩])
                  (.cond (.tmp 24) (.skip)
                  (.region [⟨(some 27), .plain (.bin .eql (.tmp 19) (.const (.int .u8 (122)))), []⟩,
                      ⟨(some 24), .plain (.move (.tmp 27)), []⟩])))))
              (.cond (.tmp 24) (.region [⟨(some 4), .plain (.move (.const (.int .i64 (2)))), []⟩])
              (.region [⟨(some 5), .plain (.move (.const (.bool false))), []⟩])))))))))
      (.seq (.region [⟨(some 28), .plain (.move (.tmp 5)), []⟩])
      (.cond (.tmp 28) (.seq (.region [⟨(some 29), .plain (.move (.tmp 0)), []⟩,
            ⟨(some 30), .plain (.move (.tmp 0)), []⟩,
            ⟨(some 31), .plain (.len true (.tmp 30)), []⟩,
            ⟨(some 32), .plain (.bin .sub (.tmp 31) (.const (.int .i64 (1)))), []⟩,
            ⟨(some 33), .plain (.cutStr (.tmp 29) none (some (.tmp 32))), []⟩,
            ⟨(some 0), .plain (.move (.tmp 33)), []⟩])
        (.seq (.region [⟨(some 34), .plain (.move (.tmp 0)), []⟩,
            ⟨(some 35), .plain (.bin .eql (.tmp 34) (.const (.string ⟨#[45]⟩))), []⟩])
        (.cond (.tmp 35) (.seq (.region [⟨(some 36), .plain (.build [(0, 1), (1, 1)] [(.int .i64 (0)), (.int .i64 (0))] []), []⟩,
              ⟨none, .plain (.store 2 (.tmp 2) (.tmp 36)), []⟩,
              ⟨(some 3), .plain (.move (.const (.int .i64 (7)))), []⟩])
          (.ret))
        (.skip))))
      (.skip)))))
    (.skip)))
  (.seq (.region [⟨(some 38), .plain (.move (.tmp 0)), []⟩,
      ⟨(some 39), .call 20 [(.tmp 38)], []⟩,
      ⟨(some 37), .plain (.move (.tmp 39)), []⟩,
      ⟨(some 40), .plain (.extract 0 (.tmp 37)), []⟩,
      ⟨(some 41), .plain (.extract 1 (.tmp 37)), []⟩,
      ⟨(some 6), .plain (.move (.tmp 40)), []⟩,
      ⟨(some 7), .plain (.move (.tmp 41)), []⟩])
  (.seq (.seq (.region [⟨(some 42), .plain (.move (.tmp 7)), []⟩,
        ⟨(some 43), .plain (.un .not (.tmp 42)), []⟩])
    (.cond (.tmp 43) (.seq (.region [⟨(some 44), .plain (.build [(0, 1), (1, 1)] [(.int .i64 (0)), (.int .i64 (0))] []), []⟩,
          ⟨none, .plain (.store 2 (.tmp 2) (.tmp 44)), []⟩,
          ⟨(some 3), .plain (.move (.const (.int .i64 (7)))), []⟩])
      (.ret))
    (.skip)))
  (.seq (.region [⟨(some 45), .plain (.move (.tmp 6)), []⟩,
      ⟨(some 46), .plain (.move (.tmp 4)), []⟩,
      ⟨(some 47), .plain (.build [(0, 1), (1, 1)] [(.int .i64 (0)), (.int .i64 (0))] [(0, (.tmp 45)), (1, (.tmp 46))]), []⟩,
      ⟨none, .plain (.store 2 (.tmp 2) (.tmp 47)), []⟩,
      ⟨(some 3), .plain (.move (.const (.int .i64 (0)))), []⟩])
  (.ret))))))⟩
theorem comp10 : compF Tryd.prog an10 Tryd.f10 = some ir10 := by kernel_rfl
theorem lps10 : loopsF Tryd.prog an10 Tryd.f10 = [] := by kernel_rfl
/-- noonmark/clock.Amount -/
def an11 : An := (.s .z (.s .z (.s (.s .z (.s (.s .z .z) .z)) (.s .z .z))))
def ir11 : IFun := ⟨22, [.tmp 2, .tmp 3],
  .seq (.region [⟨(some 2), .plain (.move (.const (.int .i64 (0)))), []⟩,
      ⟨(some 3), .plain (.move (.const (.int .i64 (0)))), []⟩])
  (.seq (.region [⟨(some 7), .plain (.move (.tmp 0)), []⟩,
      ⟨(some 8), .call 19 [(.tmp 7)], []⟩,
      ⟨(some 6), .plain (.move (.tmp 8)), []⟩,
      ⟨(some 9), .plain (.extract 0 (.tmp 6)), []⟩,
      ⟨(some 10), .plain (.extract 1 (.tmp 6)), []⟩,
      ⟨(some 4), .plain (.move (.tmp 9)), []⟩,
      ⟨(some 5), .plain (.move (.tmp 10)), []⟩])
  (.seq (.seq (.region [⟨(some 11), .plain (.move (.tmp 5)), []⟩,
        ⟨(some 12), .plain (.bin .neq (.tmp 11) (.const (.int .i64 (0)))), []⟩,
        ⟨(some 13), .plain (.move (.tmp 12)), []⟩,
        ⟨(some 14), .plain (.move (.tmp 4)), [(13, false)]⟩,
        ⟨(some 15), .plain (.bin .gtr (.tmp 14) (.const (.int .i64 (86400)))), [(13, false)]⟩,
        ⟨(some 16), .plain (.pick (.tmp 13) (.const (.bool true)) (.tmp 15)), []⟩,
        ⟨(some 17), .plain (.move (.tmp 16)), []⟩,
        ⟨(some 18), .plain (.move (.tmp 4)), [(17, false)]⟩,
        ⟨(some 19), .plain (.bin .lss (.tmp 18) (.const (.int .i64 (-86400)))), [(17, false)]⟩,
        ⟨(some 20), .plain (.pick (.tmp 17) (.const (.bool true)) (.tmp 19)), []⟩])
    (.cond (.tmp 20) (.seq (.region [⟨(some 2), .plain (.move (.const (.int .i64 (0)))), []⟩,
          ⟨(some 3), .plain (.move (.const (.int .i64 (7)))), []⟩])
      (.ret))
    (.skip)))
  (.seq (.region [⟨(some 21), .plain (.move (.tmp 4)), []⟩,
      ⟨(some 2), .plain (.move (.tmp 21)), []⟩,
      ⟨(some 3), .plain (.move (.const (.int .i64 (0)))), []⟩])
  (.ret))))⟩
theorem comp11 : compF Tryd.prog an11 Tryd.f11 = some ir11 := by kernel_rfl
theorem lps11 : loopsF Tryd.prog an11 Tryd.f11 = [] := by kernel_rfl
/-- noonmark/noonmarkref05.Amount -/
def an12 : An := (.s .z (.s .z (.s (.s .z (.s (.s .z .z) .z)) (.s .z .z))))
def ir12 : IFun := ⟨22, [.tmp 2, .tmp 3],
  .seq (.region [⟨(some 2), .plain (.move (.const (.int .i64 (0)))), []⟩,
      ⟨(some 3), .plain (.move (.const (.int .i64 (0)))), []⟩])
  (.seq (.region [⟨(some 7), .plain (.move (.tmp 0)), []⟩,
      ⟨(some 8), .call 20 [(.tmp 7)], []⟩,
      ⟨(some 6), .plain (.move (.tmp 8)), []⟩,
      ⟨(some 9), .plain (.extract 0 (.tmp 6)), []⟩,
      ⟨(some 10), .plain (.extract 1 (.tmp 6)), []⟩,
      ⟨(some 4), .plain (.move (.tmp 9)), []⟩,
      ⟨(some 5), .plain (.move (.tmp 10)), []⟩])
  (.seq (.seq (.region [⟨(some 11), .plain (.move (.tmp 5)), []⟩,
        ⟨(some 12), .plain (.un .not (.tmp 11)), []⟩,
        ⟨(some 13), .plain (.move (.tmp 12)), []⟩,
        ⟨(some 14), .plain (.move (.tmp 4)), [(13, false)]⟩,
        ⟨(some 15), .plain (.bin .gtr (.tmp 14) (.const (.int .i64 (86400)))), [(13, false)]⟩,
        ⟨(some 16), .plain (.pick (.tmp 13) (.const (.bool true)) (.tmp 15)), []⟩,
        ⟨(some 17), .plain (.move (.tmp 16)), []⟩,
        ⟨(some 18), .plain (.move (.tmp 4)), [(17, false)]⟩,
        ⟨(some 19), .plain (.bin .lss (.tmp 18) (.const (.int .i64 (-86400)))), [(17, false)]⟩,
        ⟨(some 20), .plain (.pick (.tmp 17) (.const (.bool true)) (.tmp 19)), []⟩])
    (.cond (.tmp 20) (.seq (.region [⟨(some 2), .plain (.move (.const (.int .i64 (0)))), []⟩,
          ⟨(some 3), .plain (.move (.const (.int .i64 (7)))), []⟩])
      (.ret))
    (.skip)))
  (.seq (.region [⟨(some 21), .plain (.move (.tmp 4)), []⟩,
      ⟨(some 2), .plain (.move (.tmp 21)), []⟩,
      ⟨(some 3), .plain (.move (.const (.int .i64 (0)))), []⟩])
  (.ret))))⟩
theorem comp12 : compF Tryd.prog an12 Tryd.f12 = some ir12 := by kernel_rfl
theorem lps12 : loopsF Tryd.prog an12 Tryd.f12 = [] := by kernel_rfl
/-- noonmark/clock.Show -/
def an13 : An := (.s .z (.s (.s .z (.s (.s .z .z) .z)) (.s .z .z)))
def ir13 : IFun := ⟨30, [.tmp 2, .tmp 3],
  .seq (.region [⟨(some 1), .plain (.box 0 (.tmp 0)), []⟩,
      ⟨(some 2), .plain (.move (.const (.string ⟨#[]⟩))), []⟩,
      ⟨(some 3), .plain (.move (.const (.int .i64 (0)))), []⟩])
  (.seq (.seq (.region [⟨(some 4), .plain (.fieldAddr 0 (.tmp 1)), []⟩,
        ⟨(some 5), .plain (.load 1 false (.tmp 4)), []⟩,
        ⟨(some 6), .plain (.bin .leq (.tmp 5) (.const (.int .i64 (-604800)))), []⟩,
        ⟨(some 7), .plain (.move (.tmp 6)), []⟩,
        ⟨(some 8), .plain (.fieldAddr 0 (.tmp 1)), [(7, false)]⟩,
        ⟨(some 9), .plain (.load 1 false (.tmp 8)), [(7, false)]⟩,
        ⟨(some 10), .plain (.bin .geq (.tmp 9) (.const (.int .i64 (604800)))), [(7, false)]⟩,
        ⟨(some 11), .plain (.pick (.tmp 7) (.const (.bool true)) (.tmp 10)), []⟩,
        ⟨(some 12), .plain (.move (.tmp 11)), []⟩,
        ⟨(some 13), .plain (.fieldAddr 1 (.tmp 1)), [(12, false)]⟩,
        ⟨(some 14), .plain (.load 1 false (.tmp 13)), [(12, false)]⟩,
        ⟨(some 15), .plain (.bin .lss (.tmp 14) (.const (.int .i64 (0)))), [(12, false)]⟩,
        ⟨(some 16), .plain (.pick (.tmp 12) (.const (.bool true)) (.tmp 15)), []⟩,
        ⟨(some 17), .plain (.move (.tmp 16)), []⟩,
        ⟨(some 18), .plain (.fieldAddr 1 (.tmp 1)), [(17, false)]⟩,
        ⟨(some 19), .plain (.load 1 false (.tmp 18)), [(17, false)]⟩,
        ⟨(some 20), .plain (.bin .gtr (.tmp 19) (.const (.int .i64 (2)))), [(17, false)]⟩,
        ⟨(some 21), .plain (.pick (.tmp 17) (.const (.bool true)) (.tmp 20)), []⟩])
    (.cond (.tmp 21) (.seq (.region [⟨(some 2), .plain (.move (.const (.string ⟨#[]⟩))), []⟩,
          ⟨(some 3), .plain (.move (.const (.int .i64 (1)))), []⟩])
      (.ret))
    (.skip)))
  (.seq (.draws [(⟨(some 22), .plain (.fieldAddr 0 (.tmp 1)), []⟩, [1], .pure),
      (⟨(some 23), .plain (.load 1 false (.tmp 22)), []⟩, [22], .peek),
      (⟨(some 24), .call 21 [(.tmp 23)], []⟩, [23], .quiet),
      (⟨(some 25), .plain (.build [(0, 1), (1, 1), (2, 1)] [(.string ⟨#[]⟩), (.string ⟨#[]⟩), (.string ⟨#[]⟩)] [(0, (.const (.string ⟨#[]⟩))), (1, (.const (.string ⟨#[115]⟩))), (2, (.const (.string ⟨#[117]⟩)))]), []⟩, [], .pure),
      (⟨(some 26), .plain (.fieldAddr 1 (.tmp 1)), []⟩, [1], .pure),
      (⟨(some 27), .plain (.load 1 false (.tmp 26)), []⟩, [26], .quiet),
      (⟨(some 28), .plain (.elem false 3 1 (.tmp 25) (.tmp 27)), []⟩, [25, 27], .pure),
      (⟨(some 29), .plain (.bin .add (.tmp 24) (.tmp 28)), []⟩, [24, 28], .pure),
      (⟨(some 2), .plain (.move (.tmp 29)), []⟩, [29], .pure),
      (⟨(some 3), .plain (.move (.const (.int .i64 (0)))), []⟩, [], .pure)])
  (.ret)))⟩
theorem comp13 : compF Tryd.prog an13 Tryd.f13 = some ir13 := by kernel_rfl
theorem lps13 : loopsF Tryd.prog an13 Tryd.f13 = [] := by kernel_rfl
/-- noonmark/noonmarklaw05.digit -/
def an14 : An := (.s .z (.s .z .z))
def ir14 : IFun := ⟨8, [.tmp 2],
  .seq (.region [⟨(some 2), .plain (.move (.const (.string ⟨#[]⟩))), []⟩])
  (.seq (.region [⟨(some 3), .plain (.move (.tmp 0)), []⟩,
      ⟨(some 4), .plain (.bin .add (.const (.int .i64 (48))) (.tmp 3)), []⟩,
      ⟨(some 5), .plain (.toInt .u8 (.tmp 4)), []⟩,
      ⟨(some 6), .plain (.lit 1 1 [(.int .u8 (0))] [(0, (.tmp 5))]), []⟩,
      ⟨(some 7), .plain (.toStr (.tmp 6)), []⟩,
      ⟨(some 2), .plain (.move (.tmp 7)), []⟩])
  (.ret))⟩
theorem comp14 : compF Tryd.prog an14 Tryd.f14 = some ir14 := by kernel_rfl
theorem lps14 : loopsF Tryd.prog an14 Tryd.f14 = [] := by kernel_rfl
/-- noonmark/noonmarkref05.Show -/
def an15 : An := (.s .z (.s (.s .z (.s (.s .z .z) .z)) (.s .z .z)))
def ir15 : IFun := ⟨31, [.tmp 2, .tmp 3],
  .seq (.region [⟨(some 1), .plain (.box 0 (.tmp 0)), []⟩,
      ⟨(some 2), .plain (.move (.const (.string ⟨#[]⟩))), []⟩,
      ⟨(some 3), .plain (.move (.const (.int .i64 (0)))), []⟩])
  (.seq (.seq (.region [⟨(some 4), .plain (.fieldAddr 0 (.tmp 1)), []⟩,
        ⟨(some 5), .plain (.load 1 false (.tmp 4)), []⟩,
        ⟨(some 6), .plain (.bin .lss (.tmp 5) (.const (.int .i64 (-604799)))), []⟩,
        ⟨(some 7), .plain (.move (.tmp 6)), []⟩,
        ⟨(some 8), .plain (.fieldAddr 0 (.tmp 1)), [(7, false)]⟩,
        ⟨(some 9), .plain (.load 1 false (.tmp 8)), [(7, false)]⟩,
        ⟨(some 10), .plain (.bin .gtr (.tmp 9) (.const (.int .i64 (604799)))), [(7, false)]⟩,
        ⟨(some 11), .plain (.pick (.tmp 7) (.const (.bool true)) (.tmp 10)), []⟩,
        ⟨(some 12), .plain (.move (.tmp 11)), []⟩,
        ⟨(some 13), .plain (.fieldAddr 1 (.tmp 1)), [(12, false)]⟩,
        ⟨(some 14), .plain (.load 1 false (.tmp 13)), [(12, false)]⟩,
        ⟨(some 15), .plain (.bin .lss (.tmp 14) (.const (.int .i64 (0)))), [(12, false)]⟩,
        ⟨(some 16), .plain (.pick (.tmp 12) (.const (.bool true)) (.tmp 15)), []⟩,
        ⟨(some 17), .plain (.move (.tmp 16)), []⟩,
        ⟨(some 18), .plain (.fieldAddr 1 (.tmp 1)), [(17, false)]⟩,
        ⟨(some 19), .plain (.load 1 false (.tmp 18)), [(17, false)]⟩,
        ⟨(some 20), .plain (.bin .gtr (.tmp 19) (.const (.int .i64 (2)))), [(17, false)]⟩,
        ⟨(some 21), .plain (.pick (.tmp 17) (.const (.bool true)) (.tmp 20)), []⟩])
    (.cond (.tmp 21) (.seq (.region [⟨(some 2), .plain (.move (.const (.string ⟨#[]⟩))), []⟩,
          ⟨(some 3), .plain (.move (.const (.int .i64 (1)))), []⟩])
      (.ret))
    (.skip)))
  (.seq (.draws [(⟨(some 22), .plain (.fieldAddr 0 (.tmp 1)), []⟩, [1], .pure),
      (⟨(some 23), .plain (.load 1 false (.tmp 22)), []⟩, [22], .peek),
      (⟨(some 24), .call 22 [(.tmp 23)], []⟩, [23], .quiet),
      (⟨(some 25), .plain (.lit 1 3 [(.string ⟨#[]⟩)] [(0, (.const (.string ⟨#[]⟩))), (1, (.const (.string ⟨#[115]⟩))), (2, (.const (.string ⟨#[117]⟩)))]), []⟩, [], .quiet),
      (⟨(some 26), .plain (.fieldAddr 1 (.tmp 1)), []⟩, [1], .pure),
      (⟨(some 27), .plain (.load 1 false (.tmp 26)), []⟩, [26], .quiet),
      (⟨(some 28), .plain (.idx 1 (.tmp 25) (.tmp 27)), []⟩, [25, 27], .pure),
      (⟨(some 29), .plain (.load 1 false (.tmp 28)), []⟩, [28], .quiet),
      (⟨(some 30), .plain (.bin .add (.tmp 24) (.tmp 29)), []⟩, [24, 29], .pure),
      (⟨(some 2), .plain (.move (.tmp 30)), []⟩, [30], .pure),
      (⟨(some 3), .plain (.move (.const (.int .i64 (0)))), []⟩, [], .pure)])
  (.ret)))⟩
theorem comp15 : compF Tryd.prog an15 Tryd.f15 = some ir15 := by kernel_rfl
theorem lps15 : loopsF Tryd.prog an15 Tryd.f15 = [] := by kernel_rfl
/-- noonmark/clock.ShowAmount -/
def an16 : An := (.s .z (.s (.s .z (.s (.s .z .z) .z)) (.s .z .z)))
def ir16 : IFun := ⟨12, [.tmp 2, .tmp 3],
  .seq (.region [⟨(some 2), .plain (.move (.const (.string ⟨#[]⟩))), []⟩,
      ⟨(some 3), .plain (.move (.const (.int .i64 (0)))), []⟩])
  (.seq (.seq (.region [⟨(some 4), .plain (.move (.tmp 0)), []⟩,
        ⟨(some 5), .plain (.bin .lss (.tmp 4) (.const (.int .i64 (-86400)))), []⟩,
        ⟨(some 6), .plain (.move (.tmp 5)), []⟩,
        ⟨(some 7), .plain (.move (.tmp 0)), [(6, false)]⟩,
        ⟨(some 8), .plain (.bin .gtr (.tmp 7) (.const (.int .i64 (86400)))), [(6, false)]⟩,
        ⟨(some 9), .plain (.pick (.tmp 6) (.const (.bool true)) (.tmp 8)), []⟩])
    (.cond (.tmp 9) (.seq (.region [⟨(some 2), .plain (.move (.const (.string ⟨#[]⟩))), []⟩,
          ⟨(some 3), .plain (.move (.const (.int .i64 (1)))), []⟩])
      (.ret))
    (.skip)))
  (.seq (.region [⟨(some 10), .plain (.move (.tmp 0)), []⟩,
      ⟨(some 11), .call 21 [(.tmp 10)], []⟩,
      ⟨(some 2), .plain (.move (.tmp 11)), []⟩,
      ⟨(some 3), .plain (.move (.const (.int .i64 (0)))), []⟩])
  (.ret)))⟩
theorem comp16 : compF Tryd.prog an16 Tryd.f16 = some ir16 := by kernel_rfl
theorem lps16 : loopsF Tryd.prog an16 Tryd.f16 = [] := by kernel_rfl
/-- noonmark/noonmarkref05.ShowAmount -/
def an17 : An := (.s .z (.s (.s .z (.s (.s .z .z) .z)) (.s .z .z)))
def ir17 : IFun := ⟨12, [.tmp 2, .tmp 3],
  .seq (.region [⟨(some 2), .plain (.move (.const (.string ⟨#[]⟩))), []⟩,
      ⟨(some 3), .plain (.move (.const (.int .i64 (0)))), []⟩])
  (.seq (.seq (.region [⟨(some 4), .plain (.move (.tmp 0)), []⟩,
        ⟨(some 5), .plain (.bin .lss (.tmp 4) (.const (.int .i64 (-86400)))), []⟩,
        ⟨(some 6), .plain (.move (.tmp 5)), []⟩,
        ⟨(some 7), .plain (.move (.tmp 0)), [(6, false)]⟩,
        ⟨(some 8), .plain (.bin .gtr (.tmp 7) (.const (.int .i64 (86400)))), [(6, false)]⟩,
        ⟨(some 9), .plain (.pick (.tmp 6) (.const (.bool true)) (.tmp 8)), []⟩])
    (.cond (.tmp 9) (.seq (.region [⟨(some 2), .plain (.move (.const (.string ⟨#[]⟩))), []⟩,
          ⟨(some 3), .plain (.move (.const (.int .i64 (1)))), []⟩])
      (.ret))
    (.skip)))
  (.seq (.region [⟨(some 10), .plain (.move (.tmp 0)), []⟩,
      ⟨(some 11), .call 22 [(.tmp 10)], []⟩,
      ⟨(some 2), .plain (.move (.tmp 11)), []⟩,
      ⟨(some 3), .plain (.move (.const (.int .i64 (0)))), []⟩])
  (.ret)))⟩
theorem comp17 : compF Tryd.prog an17 Tryd.f17 = some ir17 := by kernel_rfl
theorem lps17 : loopsF Tryd.prog an17 Tryd.f17 = [] := by kernel_rfl
/-- noonmark/clock.suffix -/
def an18 : An := (.s .z (.s (.s .z (.s (.s .z .z) .z)) (.s .z (.s (.s .z (.b (.s .z (.s (.s .z .z) (.s .z (.s (.s .z .z) (.k [0, 4, 25] (.s .z (.s .z (.s .z (.s .z .z)))) (.s (.s .z .z) .z)))))))) (.s .z .z)))))
def ir18 : IFun := ⟨31, [.tmp 2, .tmp 3],
  .seq (.region [⟨(some 2), .plain (.move (.const (.string ⟨#[]⟩))), []⟩,
      ⟨(some 3), .plain (.move (.const (.int .i64 (0)))), []⟩])
  (.seq (.seq (.region [⟨(some 5), .plain (.move (.tmp 0)), []⟩,
        ⟨(some 6), .plain (.len true (.tmp 5)), []⟩,
        ⟨(some 7), .plain (.bin .lss (.tmp 6) (.const (.int .i64 (2)))), []⟩])
    (.cond (.tmp 7) (.seq (.region [⟨(some 8), .plain (.move (.tmp 0)), []⟩,
          ⟨(some 2), .plain (.move (.tmp 8)), []⟩,
          ⟨(some 3), .plain (.move (.const (.int .i64 (0)))), []⟩])
      (.ret))
    (.skip)))
  (.seq (.region [⟨(some 9), .plain (.move (.tmp 0)), []⟩,
      ⟨(some 10), .plain (.move (.tmp 0)), []⟩,
      ⟨(some 11), .plain (.len true (.tmp 10)), []⟩,
      ⟨(some 12), .plain (.bin .sub (.tmp 11) (.const (.int .i64 (1)))), []⟩,
      ⟨(some 13), .plain (.cutStr (.tmp 9) none (some (.tmp 12))), []⟩,
      ⟨(some 4), .plain (.move (.tmp 13)), []⟩])
  (.seq (.seq (.region [⟨(some 14), .plain (.move (.tmp 0)), []⟩,
        ⟨(some 15), .plain (.move (.tmp 0)), []⟩,
        ⟨(some 16), .plain (.len true (.tmp 15)), []⟩,
        ⟨(some 17), .plain (.bin .sub (.tmp 16) (.const (.int .i64 (1)))), []⟩,
        ⟨(some 18), .plain (.byte (.tmp 14) (.tmp 17)), []⟩])
    (.block 0 (.seq (.region [⟨(some 20), .plain (.bin .eql (.tmp 18) (.const (.int .u8 (119)))), []⟩,
          ⟨(some 19), .plain (.move (.tmp 20)), []⟩])
      (.cond (.tmp 19) (.seq (.region [⟨(some 21), .plain (.move (.tmp 4)), []⟩,
            ⟨(some 2), .plain (.move (.tmp 21)), []⟩,
            ⟨(some 3), .plain (.move (.const (.int .i64 (0)))), []⟩])
        (.ret))
      (.seq (.region [⟨(some 23), .plain (.bin .eql (.tmp 18) (.const (.int .u8 (115)))), []⟩,
            ⟨(some 22), .plain (.move (.tmp 23)), []⟩])
        (.cond (.tmp 22) (.seq (.region [⟨(some 24), .plain (.move (.tmp 4)), []⟩,
              ⟨(some 2), .plain (.move (.tmp 24)), []⟩,
              ⟨(some 3), .plain (.move (.const (.int .i64 (1)))), []⟩])
          (.ret))
        (.cut [0, 4, 25] (.seq (.region [⟨(some 26), .plain (.bin .eql (.tmp 18) (.const (.int .u8 (117)))), []⟩,
                ⟨(some 25), .plain (.move (.tmp 26)), []⟩])
            (.cond (.tmp 25) (.skip)
            (.seq (.region [⟨(some 27), .plain (.bin .eql (.tmp 18) (.const (.int .u8 (103)))), []⟩,
                  ⟨(some 25), .plain (.move (.tmp 27)), []⟩])
              (.cond (.tmp 25) (.skip)
              (.region [⟨(some 28), .plain (.bin .eql (.tmp 18) (.const (.int .u8 (122)))), []⟩,
                  ⟨(some 25), .plain (.move (.tmp 28)), []⟩])))))
          (.cond (.tmp 25) (.seq (.region [⟨(some 29), .plain (.move (.tmp 4)), []⟩,
                ⟨(some 2), .plain (.move (.tmp 29)), []⟩,
                ⟨(some 3), .plain (.move (.const (.int .i64 (2)))), []⟩])
            (.ret))
          (.skip)))))))))
  (.seq (.region [⟨(some 30), .plain (.move (.tmp 0)), []⟩,
      ⟨(some 2), .plain (.move (.tmp 30)), []⟩,
      ⟨(some 3), .plain (.move (.const (.int .i64 (0)))), []⟩])
  (.ret)))))⟩
theorem comp18 : compF Tryd.prog an18 Tryd.f18 = some ir18 := by kernel_rfl
theorem lps18 : loopsF Tryd.prog an18 Tryd.f18 = [] := by kernel_rfl
/-- noonmark/clock.seconds -/
def an19 : An := (.s .z (.s .z (.s (.s .z (.s (.s .z .z) .z)) (.s .z (.s .z (.k [0, 2, 3, 4, 5] (.s .z (.s .z .z)) (.s .z (.s .z (.s (.s .z (.b (.l 1900 [2, 3, 4, 5, 6, 25, 26] (.s .z (.s (.s .z .z) (.s (.b (.s .z (.s .z (.s .z .z)))) .z)))))) (.s (.s .z (.s .z .z)) (.s .z .z)))))))))))
def lb1900 : IC :=
  .seq (.region [⟨(some 27), .plain (.bin .lss (.tmp 26) (.const (.int .i64 (2)))), []⟩])
  (.seq (.cond (.tmp 27) (.skip)
    (.exit 0))
  (.seq (.block 1 (.seq (.region [⟨(some 28), .plain (.move (.tmp 26)), []⟩,
          ⟨(some 29), .plain (.elem false 2 1 (.tmp 25) (.tmp 26)), []⟩,
          ⟨(some 7), .plain (.move (.tmp 28)), []⟩,
          ⟨(some 8), .plain (.move (.tmp 29)), []⟩])
      (.seq (.region [⟨(some 30), .plain (.move (.tmp 7)), []⟩,
          ⟨(some 31), .plain (.move (.tmp 5)), []⟩,
          ⟨(some 32), .plain (.bin .lss (.tmp 30) (.tmp 31)), []⟩])
      (.cond (.tmp 32) (.draws [(⟨(some 33), .plain (.load 1 false (.tmp 2)), []⟩, [2], .peek),
          (⟨(some 34), .call 26 [(.tmp 6), (.const (.int .i64 (2))), (.const (.int .i64 (2))), (.const (.int .i64 (59)))], []⟩, [6], .lone true [(⟨(some 33), .plain (.load 1 false (.tmp 2)), []⟩, [2])]),
          (⟨(some 35), .plain (.move (.tmp 8)), []⟩, [8], .pure),
          (⟨(some 36), .plain (.bin .mul (.tmp 34) (.tmp 35)), []⟩, [34, 35], .pure),
          (⟨(some 37), .plain (.bin .add (.tmp 33) (.tmp 36)), []⟩, [33, 36], .pure),
          (⟨none, .plain (.store 1 (.tmp 2) (.tmp 37)), []⟩, [2, 37], .lone true [])])
      (.skip)))))
  (.region [⟨(some 38), .plain (.bin .add (.tmp 26) (.const (.int .i64 (1)))), []⟩,
    ⟨(some 26), .plain (.move (.tmp 38)), []⟩])))
def ir19 : IFun := ⟨43, [.cell 2 1 false, .cell 3 1 false],
  .seq (.region [⟨(some 2), .plain (.new 0 [(.int .i64 (0))]), []⟩,
      ⟨(some 3), .plain (.new 0 [(.int .i64 (0))]), []⟩])
  (.seq (.region [⟨(some 9), .plain (.func (.func 23) [] [(.tmp 2), (.tmp 3)]), []⟩,
      ⟨none, .dfr (.tmp 9) [], []⟩])
  (.seq (.seq (.region [⟨(some 10), .plain (.move (.tmp 0)), []⟩,
        ⟨(some 11), .plain (.bin .eql (.tmp 10) (.const (.string ⟨#[45]⟩))), []⟩])
    (.cond (.tmp 11) (.seq (.region [⟨none, .plain (.store 1 (.tmp 2) (.const (.int .i64 (0)))), []⟩,
          ⟨none, .plain (.store 1 (.tmp 3) (.const (.int .i64 (0)))), []⟩])
      (.ret))
    (.skip)))
  (.seq (.region [⟨(some 13), .plain (.move (.tmp 0)), []⟩,
      ⟨(some 14), .call 24 [(.tmp 13), (.const (.string ⟨#[45]⟩))], []⟩,
      ⟨(some 12), .plain (.move (.tmp 14)), []⟩,
      ⟨(some 15), .plain (.extract 0 (.tmp 12)), []⟩,
      ⟨(some 16), .plain (.extract 1 (.tmp 12)), []⟩,
      ⟨(some 0), .plain (.move (.tmp 15)), []⟩,
      ⟨(some 4), .plain (.move (.tmp 16)), []⟩])
  (.seq (.region [⟨(some 17), .plain (.move (.tmp 0)), []⟩,
      ⟨(some 18), .call 25 [(.tmp 17), (.const (.string ⟨#[58]⟩))], []⟩,
      ⟨(some 5), .plain (.move (.tmp 18)), []⟩])
  (.cut [0, 2, 3, 4, 5] (.seq (.region [⟨(some 19), .plain (.move (.tmp 5)), []⟩,
        ⟨(some 20), .plain (.bin .gtr (.tmp 19) (.const (.int .i64 (2)))), []⟩])
    (.cond (.tmp 20) (.region [⟨(some 21), .plain (.iface 25 (.const (.int .i64 (7)))), []⟩,
        ⟨none, .panic (.tmp 21), []⟩])
    (.skip)))
  (.seq (.region [⟨(some 22), .plain (.move (.tmp 0)), []⟩,
      ⟨(some 6), .plain (.new 0 [(.string ⟨#[]⟩)]), []⟩,
      ⟨none, .plain (.store 1 (.tmp 6) (.tmp 22)), []⟩])
  (.seq (.region [⟨(some 23), .call 26 [(.tmp 6), (.const (.int .i64 (1))), (.const (.int .i64 (3))), (.const (.int .i64 (167)))], []⟩,
      ⟨(some 24), .plain (.bin .mul (.tmp 23) (.const (.int .i64 (3600)))), []⟩,
      ⟨none, .plain (.store 1 (.tmp 2) (.tmp 24)), []⟩])
  (.seq (.seq (.region [⟨(some 25), .plain (.build [(0, 1), (1, 1)] [(.int .i64 (0)), (.int .i64 (0))] [(0, (.const (.int .i64 (60)))), (1, (.const (.int .i64 (1))))]), []⟩,
        ⟨(some 26), .plain (.move (.const (.int .i64 (0)))), []⟩])
    (.block 0 (.loop 1900 [2, 3, 4, 5, 6, 25, 26])))
  (.seq (.seq (.region [⟨(some 39), .plain (.move (.tmp 4)), []⟩])
    (.cond (.tmp 39) (.region [⟨(some 40), .plain (.load 1 false (.tmp 2)), []⟩,
        ⟨(some 41), .plain (.un .neg (.tmp 40)), []⟩,
        ⟨none, .plain (.store 1 (.tmp 2) (.tmp 41)), []⟩])
    (.skip)))
  (.seq (.region [⟨(some 42), .plain (.load 1 false (.tmp 2)), []⟩,
      ⟨none, .plain (.store 1 (.tmp 2) (.tmp 42)), []⟩,
      ⟨none, .plain (.store 1 (.tmp 3) (.const (.int .i64 (0)))), []⟩])
  (.ret)))))))))))⟩
theorem comp19 : compF Tryd.prog an19 Tryd.f19 = some ir19 := by kernel_rfl
theorem lps19 : loopsF Tryd.prog an19 Tryd.f19 = [(1900, [2, 3, 4, 5, 6, 25, 26], some lb1900)] := by kernel_rfl
/-- noonmark/noonmarkref05.time -/
def an20 : An := (.s .z (.s (.s .z (.s (.s .z .z) .z)) (.s .z (.k [0, 4] (.s .z (.s .z .z)) (.s .z (.s (.s .z (.s (.s .z .z) .z)) (.s .z (.s .z (.s (.s .z (.b (.l 2000 [4, 5, 6, 7, 8] (.s (.s .z (.s .z .z)) (.s (.b (.s .z (.s (.s .z (.s .z .z)) (.s .z .z)))) .z))))) (.s (.s .z (.s (.s .z .z) .z)) (.s (.s .z (.s (.s .z .z) .z)) (.s .z .z))))))))))))
def lb2000 : IC :=
  .seq (.seq (.region [⟨(some 34), .plain (.move (.tmp 8)), []⟩,
        ⟨(some 35), .plain (.bin .lss (.tmp 34) (.const (.int .i64 (3)))), []⟩])
    (.cond (.tmp 35) (.skip)
    (.exit 0)))
  (.seq (.block 1 (.seq (.region [⟨(some 9), .plain (.move (.const (.int .i64 (0)))), []⟩])
      (.seq (.seq (.region [⟨(some 38), .plain (.move (.tmp 8)), []⟩,
            ⟨(some 39), .plain (.move (.tmp 5)), []⟩,
            ⟨(some 40), .plain (.len false (.tmp 39)), []⟩,
            ⟨(some 41), .plain (.bin .lss (.tmp 38) (.tmp 40)), []⟩])
        (.cond (.tmp 41) (.region [⟨(some 42), .plain (.move (.tmp 5)), []⟩,
            ⟨(some 43), .plain (.move (.tmp 8)), []⟩,
            ⟨(some 44), .plain (.idx 1 (.tmp 42) (.tmp 43)), []⟩,
            ⟨(some 45), .plain (.load 1 false (.tmp 44)), []⟩,
            ⟨(some 46), .call 28 [(.tmp 45), (.const (.int .i64 (2))), (.const (.int .i64 (2))), (.const (.int .i64 (59)))], []⟩,
            ⟨(some 9), .plain (.move (.tmp 46)), []⟩])
        (.skip)))
      (.seq (.region [⟨(some 47), .plain (.move (.tmp 7)), []⟩,
          ⟨(some 48), .plain (.move (.tmp 47)), []⟩,
          ⟨(some 49), .plain (.move (.tmp 9)), [(48, false)]⟩,
          ⟨(some 50), .plain (.bin .lss (.tmp 49) (.const (.int .i64 (0)))), [(48, false)]⟩,
          ⟨(some 51), .plain (.pick (.tmp 48) (.const (.bool true)) (.tmp 50)), []⟩,
          ⟨(some 7), .plain (.move (.tmp 51)), []⟩])
      (.region [⟨(some 52), .plain (.move (.tmp 6)), []⟩,
        ⟨(some 53), .plain (.bin .mul (.tmp 52) (.const (.int .i64 (60)))), []⟩,
        ⟨(some 54), .plain (.move (.tmp 9)), []⟩,
        ⟨(some 55), .plain (.bin .add (.tmp 53) (.tmp 54)), []⟩,
        ⟨(some 6), .plain (.move (.tmp 55)), []⟩])))))
  (.region [⟨(some 36), .plain (.move (.tmp 8)), []⟩,
    ⟨(some 37), .plain (.bin .add (.tmp 36) (.const (.int .i64 (1)))), []⟩,
    ⟨(some 8), .plain (.move (.tmp 37)), []⟩]))
def ir20 : IFun := ⟨61, [.tmp 2, .tmp 3],
  .seq (.region [⟨(some 2), .plain (.move (.const (.int .i64 (0)))), []⟩,
      ⟨(some 3), .plain (.move (.const (.bool false))), []⟩])
  (.seq (.seq (.region [⟨(some 10), .plain (.move (.tmp 0)), []⟩,
        ⟨(some 11), .plain (.bin .eql (.tmp 10) (.const (.string ⟨#[45]⟩))), []⟩])
    (.cond (.tmp 11) (.seq (.region [⟨(some 2), .plain (.move (.const (.int .i64 (0)))), []⟩,
          ⟨(some 3), .plain (.move (.const (.bool true))), []⟩])
      (.ret))
    (.skip)))
  (.seq (.region [⟨(some 12), .plain (.move (.tmp 0)), []⟩,
      ⟨(some 13), .plain (.len true (.tmp 12)), []⟩,
      ⟨(some 14), .plain (.bin .gtr (.tmp 13) (.const (.int .i64 (0)))), []⟩,
      ⟨(some 15), .plain (.move (.tmp 14)), []⟩,
      ⟨(some 16), .plain (.move (.tmp 0)), [(15, true)]⟩,
      ⟨(some 17), .plain (.byte (.tmp 16) (.const (.int .i64 (0)))), [(15, true)]⟩,
      ⟨(some 18), .plain (.bin .eql (.tmp 17) (.const (.int .u8 (45)))), [(15, true)]⟩,
      ⟨(some 19), .plain (.pick (.tmp 15) (.tmp 18) (.const (.bool false))), []⟩,
      ⟨(some 4), .plain (.move (.tmp 19)), []⟩])
  (.cut [0, 4] (.seq (.region [⟨(some 20), .plain (.move (.tmp 4)), []⟩])
    (.cond (.tmp 20) (.region [⟨(some 21), .plain (.move (.tmp 0)), []⟩,
        ⟨(some 22), .plain (.cutStr (.tmp 21) (some (.const (.int .i64 (1)))) none), []⟩,
        ⟨(some 0), .plain (.move (.tmp 22)), []⟩])
    (.skip)))
  (.seq (.region [⟨(some 23), .plain (.move (.tmp 0)), []⟩,
      ⟨(some 24), .call 27 [(.tmp 23)], []⟩,
      ⟨(some 5), .plain (.move (.tmp 24)), []⟩])
  (.seq (.seq (.region [⟨(some 25), .plain (.move (.tmp 5)), []⟩,
        ⟨(some 26), .plain (.len false (.tmp 25)), []⟩,
        ⟨(some 27), .plain (.bin .gtr (.tmp 26) (.const (.int .i64 (3)))), []⟩])
    (.cond (.tmp 27) (.seq (.region [⟨(some 2), .plain (.move (.const (.int .i64 (0)))), []⟩,
          ⟨(some 3), .plain (.move (.const (.bool false))), []⟩])
      (.ret))
    (.skip)))
  (.seq (.region [⟨(some 28), .plain (.move (.tmp 5)), []⟩,
      ⟨(some 29), .plain (.idx 1 (.tmp 28) (.const (.int .i64 (0)))), []⟩,
      ⟨(some 30), .plain (.load 1 false (.tmp 29)), []⟩,
      ⟨(some 31), .call 28 [(.tmp 30), (.const (.int .i64 (1))), (.const (.int .i64 (3))), (.const (.int .i64 (167)))], []⟩,
      ⟨(some 6), .plain (.move (.tmp 31)), []⟩])
  (.seq (.region [⟨(some 32), .plain (.move (.tmp 6)), []⟩,
      ⟨(some 33), .plain (.bin .lss (.tmp 32) (.const (.int .i64 (0)))), []⟩,
      ⟨(some 7), .plain (.move (.tmp 33)), []⟩])
  (.seq (.seq (.region [⟨(some 8), .plain (.move (.const (.int .i64 (1)))), []⟩])
    (.block 0 (.loop 2000 [4, 5, 6, 7, 8])))
  (.seq (.seq (.region [⟨(some 56), .plain (.move (.tmp 7)), []⟩])
    (.cond (.tmp 56) (.seq (.region [⟨(some 2), .plain (.move (.const (.int .i64 (0)))), []⟩,
          ⟨(some 3), .plain (.move (.const (.bool false))), []⟩])
      (.ret))
    (.skip)))
  (.seq (.seq (.region [⟨(some 57), .plain (.move (.tmp 4)), []⟩])
    (.cond (.tmp 57) (.seq (.region [⟨(some 58), .plain (.move (.tmp 6)), []⟩,
          ⟨(some 59), .plain (.un .neg (.tmp 58)), []⟩,
          ⟨(some 2), .plain (.move (.tmp 59)), []⟩,
          ⟨(some 3), .plain (.move (.const (.bool true))), []⟩])
      (.ret))
    (.skip)))
  (.seq (.region [⟨(some 60), .plain (.move (.tmp 6)), []⟩,
      ⟨(some 2), .plain (.move (.tmp 60)), []⟩,
      ⟨(some 3), .plain (.move (.const (.bool true))), []⟩])
  (.ret))))))))))))⟩
theorem comp20 : compF Tryd.prog an20 Tryd.f20 = some ir20 := by kernel_rfl
theorem lps20 : loopsF Tryd.prog an20 Tryd.f20 = [(2000, [4, 5, 6, 7, 8], some lb2000)] := by kernel_rfl
/-- noonmark/clock.text -/
def an21 : An := (.s .z (.s .z (.k [0, 3] (.s .z (.s .z .z)) (.s .z (.s (.s .z (.s .z .z)) (.s .z .z))))))
def ir21 : IFun := ⟨27, [.tmp 2],
  .seq (.region [⟨(some 2), .plain (.move (.const (.string ⟨#[]⟩))), []⟩])
  (.seq (.region [⟨(some 3), .plain (.move (.const (.string ⟨#[]⟩))), []⟩])
  (.cut [0, 3] (.seq (.region [⟨(some 4), .plain (.move (.tmp 0)), []⟩,
        ⟨(some 5), .plain (.bin .lss (.tmp 4) (.const (.int .i64 (0)))), []⟩])
    (.cond (.tmp 5) (.region [⟨(some 6), .plain (.move (.tmp 0)), []⟩,
        ⟨(some 7), .plain (.un .neg (.tmp 6)), []⟩,
        ⟨(some 3), .plain (.move (.const (.string ⟨#[45]⟩))), []⟩,
        ⟨(some 0), .plain (.move (.tmp 7)), []⟩])
    (.skip)))
  (.seq (.region [⟨(some 8), .plain (.move (.tmp 3)), []⟩,
      ⟨(some 9), .plain (.move (.tmp 0)), []⟩,
      ⟨(some 10), .plain (.bin .quo (.tmp 9) (.const (.int .i64 (3600)))), []⟩,
      ⟨(some 11), .call 29 [(.tmp 10)], []⟩,
      ⟨(some 12), .plain (.move (.tmp 0)), []⟩,
      ⟨(some 13), .plain (.bin .quo (.tmp 12) (.const (.int .i64 (60)))), []⟩,
      ⟨(some 14), .plain (.bin .rem (.tmp 13) (.const (.int .i64 (60)))), []⟩,
      ⟨(some 15), .call 30 [(.tmp 14)], []⟩,
      ⟨(some 16), .plain (.bin .add (.tmp 11) (.tmp 15)), []⟩,
      ⟨(some 17), .plain (.bin .add (.tmp 8) (.tmp 16)), []⟩,
      ⟨(some 3), .plain (.move (.tmp 17)), []⟩])
  (.seq (.seq (.region [⟨(some 18), .plain (.move (.tmp 0)), []⟩,
        ⟨(some 19), .plain (.bin .rem (.tmp 18) (.const (.int .i64 (60)))), []⟩,
        ⟨(some 20), .plain (.bin .gtr (.tmp 19) (.const (.int .i64 (0)))), []⟩])
    (.cond (.tmp 20) (.region [⟨(some 21), .plain (.move (.tmp 3)), []⟩,
        ⟨(some 22), .plain (.move (.tmp 0)), []⟩,
        ⟨(some 23), .plain (.bin .rem (.tmp 22) (.const (.int .i64 (60)))), []⟩,
        ⟨(some 24), .call 30 [(.tmp 23)], []⟩,
        ⟨(some 25), .plain (.bin .add (.tmp 21) (.tmp 24)), []⟩,
        ⟨(some 3), .plain (.move (.tmp 25)), []⟩])
    (.skip)))
  (.seq (.region [⟨(some 26), .plain (.move (.tmp 3)), []⟩,
      ⟨(some 2), .plain (.move (.tmp 26)), []⟩])
  (.ret))))))⟩
theorem comp21 : compF Tryd.prog an21 Tryd.f21 = some ir21 := by kernel_rfl
theorem lps21 : loopsF Tryd.prog an21 Tryd.f21 = [] := by kernel_rfl
/-- noonmark/noonmarkref05.shown -/
def an22 : An := (.s .z (.s .z (.k [0, 3] (.s .z (.s (.s .z .z) .z)) (.s .z (.s (.s .z (.s .z .z)) (.s .z .z))))))
def ir22 : IFun := ⟨27, [.tmp 2],
  .seq (.region [⟨(some 2), .plain (.move (.const (.string ⟨#[]⟩))), []⟩])
  (.seq (.region [⟨(some 3), .plain (.move (.const (.string ⟨#[]⟩))), []⟩])
  (.cut [0, 3] (.seq (.region [⟨(some 4), .plain (.move (.tmp 0)), []⟩,
        ⟨(some 5), .plain (.bin .lss (.tmp 4) (.const (.int .i64 (0)))), []⟩])
    (.cond (.tmp 5) (.seq (.region [⟨(some 3), .plain (.move (.const (.string ⟨#[45]⟩))), []⟩])
      (.region [⟨(some 6), .plain (.move (.tmp 0)), []⟩,
        ⟨(some 7), .plain (.un .neg (.tmp 6)), []⟩,
        ⟨(some 0), .plain (.move (.tmp 7)), []⟩]))
    (.skip)))
  (.seq (.region [⟨(some 8), .plain (.move (.tmp 3)), []⟩,
      ⟨(some 9), .plain (.move (.tmp 0)), []⟩,
      ⟨(some 10), .plain (.bin .quo (.tmp 9) (.const (.int .i64 (3600)))), []⟩,
      ⟨(some 11), .call 31 [(.tmp 10)], []⟩,
      ⟨(some 12), .plain (.bin .add (.tmp 8) (.tmp 11)), []⟩,
      ⟨(some 13), .plain (.move (.tmp 0)), []⟩,
      ⟨(some 14), .plain (.bin .quo (.tmp 13) (.const (.int .i64 (60)))), []⟩,
      ⟨(some 15), .plain (.bin .rem (.tmp 14) (.const (.int .i64 (60)))), []⟩,
      ⟨(some 16), .call 32 [(.tmp 15)], []⟩,
      ⟨(some 17), .plain (.bin .add (.tmp 12) (.tmp 16)), []⟩,
      ⟨(some 3), .plain (.move (.tmp 17)), []⟩])
  (.seq (.seq (.region [⟨(some 18), .plain (.move (.tmp 0)), []⟩,
        ⟨(some 19), .plain (.bin .rem (.tmp 18) (.const (.int .i64 (60)))), []⟩,
        ⟨(some 20), .plain (.bin .neq (.tmp 19) (.const (.int .i64 (0)))), []⟩])
    (.cond (.tmp 20) (.region [⟨(some 21), .plain (.move (.tmp 3)), []⟩,
        ⟨(some 22), .plain (.move (.tmp 0)), []⟩,
        ⟨(some 23), .plain (.bin .rem (.tmp 22) (.const (.int .i64 (60)))), []⟩,
        ⟨(some 24), .call 32 [(.tmp 23)], []⟩,
        ⟨(some 25), .plain (.bin .add (.tmp 21) (.tmp 24)), []⟩,
        ⟨(some 3), .plain (.move (.tmp 25)), []⟩])
    (.skip)))
  (.seq (.region [⟨(some 26), .plain (.move (.tmp 3)), []⟩,
      ⟨(some 2), .plain (.move (.tmp 26)), []⟩])
  (.ret))))))⟩
theorem comp22 : compF Tryd.prog an22 Tryd.f22 = some ir22 := by kernel_rfl
theorem lps22 : loopsF Tryd.prog an22 Tryd.f22 = [] := by kernel_rfl
/-- noonmark/clock.seconds$1 -/
def an23 : An := (.s .z (.s .z (.s .z .z)))
def ir23 : IFun := ⟨8, [],
  .seq (.region [⟨(some 3), .recover, []⟩,
      ⟨(some 2), .plain (.move (.tmp 3)), []⟩])
  (.seq (.region [⟨(some 4), .plain (.move (.tmp 2)), []⟩,
      ⟨(some 5), .plain (.isNil .ifc true (.tmp 4)), []⟩])
  (.cond (.tmp 5) (.draws [(⟨(some 6), .plain (.move (.tmp 2)), []⟩, [2], .pure),
      (⟨(some 7), .plain (.assert 25 false (.int .i64 (0)) (.tmp 6)), []⟩, [6], .pure),
      (⟨none, .plain (.store 1 (.tmp 0) (.const (.int .i64 (0)))), []⟩, [0], .lone true []),
      (⟨none, .plain (.store 1 (.tmp 1) (.tmp 7)), []⟩, [1, 7], .lone true [])])
  (.skip)))⟩
theorem comp23 : compF Tryd.prog an23 Tryd.f23 = some ir23 := by kernel_rfl
theorem lps23 : loopsF Tryd.prog an23 Tryd.f23 = [] := by kernel_rfl
/-- strings.CutPrefix -/
def an24 : An := (.s .z (.s .z .z))
def ir24 : IFun := ⟨11, [.tmp 4, .tmp 5],
  .seq (.region [⟨(some 4), .plain (.move (.const (.string ⟨#[]⟩))), []⟩,
      ⟨(some 5), .plain (.move (.const (.bool false))), []⟩])
  (.seq (.region [⟨(some 6), .plain (.move (.tmp 0)), []⟩,
      ⟨(some 7), .plain (.move (.tmp 1)), []⟩,
      ⟨(some 8), .call 33 [(.tmp 6), (.tmp 7)], []⟩,
      ⟨(some 9), .plain (.extract 0 (.tmp 8)), []⟩,
      ⟨(some 10), .plain (.extract 1 (.tmp 8)), []⟩,
      ⟨(some 4), .plain (.move (.tmp 9)), []⟩,
      ⟨(some 5), .plain (.move (.tmp 10)), []⟩])
  (.ret))⟩
theorem comp24 : compF Tryd.prog an24 Tryd.f24 = some ir24 := by kernel_rfl
theorem lps24 : loopsF Tryd.prog an24 Tryd.f24 = [] := by kernel_rfl
/-- (*noonmark/clock.reader).number -/
def an26 : An := (.s .z (.s .z (.s .z (.s (.s .z (.b (.l 2600 [1, 2, 3, 9, 10, 16, 17, 18] (.s .z (.s (.s .z .z) (.s (.b (.s .z (.k [1, 2, 3, 9, 10, 12, 16, 17, 18] (.s .z (.s .z .z)) (.s .z (.s .z (.s .z .z)))))) .z)))))) (.s (.s .z (.s .z .z)) (.s .z .z))))))
def lb2600 : IC :=
  .seq (.region [⟨(some 19), .plain (.bin .lss (.tmp 18) (.tmp 17)), []⟩])
  (.seq (.cond (.tmp 19) (.skip)
    (.exit 0))
  (.seq (.block 1 (.seq (.region [⟨(some 20), .plain (.idx 1 (.tmp 16) (.tmp 18)), []⟩,
          ⟨(some 21), .plain (.load 1 false (.tmp 20)), []⟩,
          ⟨(some 12), .plain (.move (.tmp 21)), []⟩])
      (.cut [1, 2, 3, 9, 10, 12, 16, 17, 18] (.seq (.region [⟨(some 22), .plain (.move (.tmp 12)), []⟩,
            ⟨(some 23), .plain (.bin .lss (.tmp 22) (.const (.int .u8 (48)))), []⟩,
            ⟨(some 24), .plain (.move (.tmp 23)), []⟩,
            ⟨(some 25), .plain (.move (.tmp 12)), [(24, false)]⟩,
            ⟨(some 26), .plain (.bin .gtr (.tmp 25) (.const (.int .u8 (57)))), [(24, false)]⟩,
            ⟨(some 27), .plain (.pick (.tmp 24) (.const (.bool true)) (.tmp 26)), []⟩])
        (.cond (.tmp 27) (.region [⟨(some 28), .plain (.iface 25 (.const (.int .i64 (7)))), []⟩,
            ⟨none, .panic (.tmp 28), []⟩])
        (.skip)))
      (.seq (.region [⟨(some 29), .plain (.move (.tmp 10)), []⟩,
          ⟨(some 30), .plain (.bin .mul (.tmp 29) (.const (.int .i64 (10)))), []⟩,
          ⟨(some 31), .plain (.move (.tmp 12)), []⟩,
          ⟨(some 32), .plain (.bin .sub (.tmp 31) (.const (.int .u8 (48)))), []⟩,
          ⟨(some 33), .plain (.toInt .i64 (.tmp 32)), []⟩,
          ⟨(some 34), .plain (.bin .add (.tmp 30) (.tmp 33)), []⟩,
          ⟨(some 10), .plain (.move (.tmp 34)), []⟩])
      (.seq (.region [⟨(some 35), .plain (.move (.tmp 10)), []⟩,
          ⟨(some 36), .plain (.move (.tmp 3)), []⟩,
          ⟨(some 37), .plain (.bin .gtr (.tmp 35) (.tmp 36)), []⟩])
      (.cond (.tmp 37) (.region [⟨(some 38), .plain (.iface 25 (.const (.int .i64 (7)))), []⟩,
          ⟨none, .panic (.tmp 38), []⟩])
      (.skip)))))))
  (.region [⟨(some 39), .plain (.bin .add (.tmp 18) (.const (.int .i64 (1)))), []⟩,
    ⟨(some 18), .plain (.move (.tmp 39)), []⟩])))
def ir26 : IFun := ⟨52, [.tmp 8],
  .seq (.region [⟨(some 8), .plain (.move (.const (.int .i64 (0)))), []⟩])
  (.seq (.region [⟨(some 13), .plain (.move (.tmp 0)), []⟩,
      ⟨(some 14), .call 37 [(.tmp 13)], []⟩,
      ⟨(some 9), .plain (.move (.tmp 14)), []⟩])
  (.seq (.region [⟨(some 10), .plain (.move (.const (.int .i64 (0)))), []⟩])
  (.seq (.seq (.region [⟨(some 15), .plain (.move (.tmp 9)), []⟩,
        ⟨(some 16), .plain (.toBytes (.tmp 15)), []⟩,
        ⟨(some 17), .plain (.len false (.tmp 16)), []⟩,
        ⟨(some 18), .plain (.move (.const (.int .i64 (0)))), []⟩])
    (.block 0 (.loop 2600 [1, 2, 3, 9, 10, 16, 17, 18])))
  (.seq (.seq (.region [⟨(some 40), .plain (.move (.tmp 9)), []⟩,
        ⟨(some 41), .plain (.len true (.tmp 40)), []⟩,
        ⟨(some 42), .plain (.move (.tmp 1)), []⟩,
        ⟨(some 43), .plain (.bin .lss (.tmp 41) (.tmp 42)), []⟩,
        ⟨(some 44), .plain (.move (.tmp 43)), []⟩,
        ⟨(some 45), .plain (.move (.tmp 9)), [(44, false)]⟩,
        ⟨(some 46), .plain (.len true (.tmp 45)), [(44, false)]⟩,
        ⟨(some 47), .plain (.move (.tmp 2)), [(44, false)]⟩,
        ⟨(some 48), .plain (.bin .gtr (.tmp 46) (.tmp 47)), [(44, false)]⟩,
        ⟨(some 49), .plain (.pick (.tmp 44) (.const (.bool true)) (.tmp 48)), []⟩])
    (.cond (.tmp 49) (.region [⟨(some 50), .plain (.iface 25 (.const (.int .i64 (7)))), []⟩,
        ⟨none, .panic (.tmp 50), []⟩])
    (.skip)))
  (.seq (.region [⟨(some 51), .plain (.move (.tmp 10)), []⟩,
      ⟨(some 8), .plain (.move (.tmp 51)), []⟩])
  (.ret))))))⟩
theorem comp26 : compF Tryd.prog an26 Tryd.f26 = some ir26 := by kernel_rfl
theorem lps26 : loopsF Tryd.prog an26 Tryd.f26 = [(2600, [1, 2, 3, 9, 10, 16, 17, 18], some lb2600)] := by kernel_rfl
/-- noonmark/noonmarkref05.parts -/
def an27 : An := (.s .z (.s .z (.s .z (.s (.s .z (.b (.l 2700 [0, 3, 4, 5] (.s (.s .z (.s .z .z)) (.s (.b (.s .z (.s (.s .z .z) .z))) .z))))) (.s .z .z)))))
def lb2700 : IC :=
  .seq (.seq (.region [⟨(some 6), .plain (.move (.tmp 5)), []⟩,
        ⟨(some 7), .plain (.move (.tmp 0)), []⟩,
        ⟨(some 8), .plain (.len true (.tmp 7)), []⟩,
        ⟨(some 9), .plain (.bin .leq (.tmp 6) (.tmp 8)), []⟩])
    (.cond (.tmp 9) (.skip)
    (.exit 0)))
  (.seq (.block 1 (.seq (.region [⟨(some 12), .plain (.move (.tmp 5)), []⟩,
          ⟨(some 13), .plain (.move (.tmp 0)), []⟩,
          ⟨(some 14), .plain (.len true (.tmp 13)), []⟩,
          ⟨(some 15), .plain (.bin .eql (.tmp 12) (.tmp 14)), []⟩,
          ⟨(some 16), .plain (.move (.tmp 15)), []⟩,
          ⟨(some 17), .plain (.move (.tmp 0)), [(16, false)]⟩,
          ⟨(some 18), .plain (.move (.tmp 5)), [(16, false)]⟩,
          ⟨(some 19), .plain (.byte (.tmp 17) (.tmp 18)), [(16, false)]⟩,
          ⟨(some 20), .plain (.bin .eql (.tmp 19) (.const (.int .u8 (58)))), [(16, false)]⟩,
          ⟨(some 21), .plain (.pick (.tmp 16) (.const (.bool true)) (.tmp 20)), []⟩])
      (.cond (.tmp 21) (.seq (.region [⟨(some 22), .plain (.move (.tmp 3)), []⟩,
            ⟨(some 23), .plain (.move (.tmp 0)), []⟩,
            ⟨(some 24), .plain (.move (.tmp 4)), []⟩,
            ⟨(some 25), .plain (.move (.tmp 5)), []⟩,
            ⟨(some 26), .plain (.cutStr (.tmp 23) (some (.tmp 24)) (some (.tmp 25))), []⟩,
            ⟨(some 27), .plain (.lit 1 1 [(.string ⟨#[]⟩)] [(0, (.tmp 26))]), []⟩,
            ⟨(some 28), .plain (.app false 1 16 (.tmp 22) (.tmp 27)), []⟩,
            ⟨(some 3), .plain (.move (.tmp 28)), []⟩])
        (.region [⟨(some 29), .plain (.move (.tmp 5)), []⟩,
          ⟨(some 30), .plain (.bin .add (.tmp 29) (.const (.int .i64 (1)))), []⟩,
          ⟨(some 4), .plain (.move (.tmp 30)), []⟩]))
      (.skip))))
  (.region [⟨(some 10), .plain (.move (.tmp 5)), []⟩,
    ⟨(some 11), .plain (.bin .add (.tmp 10) (.const (.int .i64 (1)))), []⟩,
    ⟨(some 5), .plain (.move (.tmp 11)), []⟩]))
def ir27 : IFun := ⟨32, [.tmp 2],
  .seq (.region [⟨(some 2), .plain (.move (.const (.slice none 0 0))), []⟩])
  (.seq (.region [⟨(some 3), .plain (.move (.const (.slice none 0 0))), []⟩])
  (.seq (.region [⟨(some 4), .plain (.move (.const (.int .i64 (0)))), []⟩])
  (.seq (.seq (.region [⟨(some 5), .plain (.move (.const (.int .i64 (0)))), []⟩])
    (.block 0 (.loop 2700 [0, 3, 4, 5])))
  (.seq (.region [⟨(some 31), .plain (.move (.tmp 3)), []⟩,
      ⟨(some 2), .plain (.move (.tmp 31)), []⟩])
  (.ret)))))⟩
theorem comp27 : compF Tryd.prog an27 Tryd.f27 = some ir27 := by kernel_rfl
theorem lps27 : loopsF Tryd.prog an27 Tryd.f27 = [(2700, [0, 3, 4, 5], some lb2700)] := by kernel_rfl
/-- noonmark/noonmarkref05.number -/
def an28 : An := (.s .z (.s (.s .z (.s (.s .z .z) .z)) (.s .z (.s (.s .z (.b (.l 2800 [0, 3, 8, 9, 10] (.s (.s .z (.s .z .z)) (.s (.b (.s (.s .z (.s (.s .z .z) .z)) .z)) .z))))) (.s (.s .z (.s (.s .z .z) .z)) (.s .z .z))))))
def lb2800 : IC :=
  .seq (.seq (.region [⟨(some 21), .plain (.move (.tmp 10)), []⟩,
        ⟨(some 22), .plain (.move (.tmp 0)), []⟩,
        ⟨(some 23), .plain (.len true (.tmp 22)), []⟩,
        ⟨(some 24), .plain (.bin .lss (.tmp 21) (.tmp 23)), []⟩])
    (.cond (.tmp 24) (.skip)
    (.exit 0)))
  (.seq (.block 1 (.seq (.seq (.region [⟨(some 27), .plain (.move (.tmp 0)), []⟩,
            ⟨(some 28), .plain (.move (.tmp 10)), []⟩,
            ⟨(some 29), .plain (.byte (.tmp 27) (.tmp 28)), []⟩,
            ⟨(some 30), .plain (.bin .lss (.tmp 29) (.const (.int .u8 (48)))), []⟩,
            ⟨(some 31), .plain (.move (.tmp 30)), []⟩,
            ⟨(some 32), .plain (.move (.tmp 0)), [(31, false)]⟩,
            ⟨(some 33), .plain (.move (.tmp 10)), [(31, false)]⟩,
            ⟨(some 34), .plain (.byte (.tmp 32) (.tmp 33)), [(31, false)]⟩,
            ⟨(some 35), .plain (.bin .gtr (.tmp 34) (.const (.int .u8 (57)))), [(31, false)]⟩,
            ⟨(some 36), .plain (.pick (.tmp 31) (.const (.bool true)) (.tmp 35)), []⟩])
        (.cond (.tmp 36) (.seq (.region [⟨(some 8), .plain (.move (.const (.int .i64 (-1)))), []⟩])
          (.ret))
        (.skip)))
      (.region [⟨(some 37), .plain (.move (.tmp 9)), []⟩,
        ⟨(some 38), .plain (.bin .mul (.tmp 37) (.const (.int .i64 (10)))), []⟩,
        ⟨(some 39), .plain (.move (.tmp 0)), []⟩,
        ⟨(some 40), .plain (.move (.tmp 10)), []⟩,
        ⟨(some 41), .plain (.byte (.tmp 39) (.tmp 40)), []⟩,
        ⟨(some 42), .plain (.bin .sub (.tmp 41) (.const (.int .u8 (48)))), []⟩,
        ⟨(some 43), .plain (.toInt .i64 (.tmp 42)), []⟩,
        ⟨(some 44), .plain (.bin .add (.tmp 38) (.tmp 43)), []⟩,
        ⟨(some 9), .plain (.move (.tmp 44)), []⟩])))
  (.region [⟨(some 25), .plain (.move (.tmp 10)), []⟩,
    ⟨(some 26), .plain (.bin .add (.tmp 25) (.const (.int .i64 (1)))), []⟩,
    ⟨(some 10), .plain (.move (.tmp 26)), []⟩]))
def ir28 : IFun := ⟨49, [.tmp 8],
  .seq (.region [⟨(some 8), .plain (.move (.const (.int .i64 (0)))), []⟩])
  (.seq (.seq (.region [⟨(some 11), .plain (.move (.tmp 0)), []⟩,
        ⟨(some 12), .plain (.len true (.tmp 11)), []⟩,
        ⟨(some 13), .plain (.move (.tmp 1)), []⟩,
        ⟨(some 14), .plain (.bin .lss (.tmp 12) (.tmp 13)), []⟩,
        ⟨(some 15), .plain (.move (.tmp 14)), []⟩,
        ⟨(some 16), .plain (.move (.tmp 0)), [(15, false)]⟩,
        ⟨(some 17), .plain (.len true (.tmp 16)), [(15, false)]⟩,
        ⟨(some 18), .plain (.move (.tmp 2)), [(15, false)]⟩,
        ⟨(some 19), .plain (.bin .gtr (.tmp 17) (.tmp 18)), [(15, false)]⟩,
        ⟨(some 20), .plain (.pick (.tmp 15) (.const (.bool true)) (.tmp 19)), []⟩])
    (.cond (.tmp 20) (.seq (.region [⟨(some 8), .plain (.move (.const (.int .i64 (-1)))), []⟩])
      (.ret))
    (.skip)))
  (.seq (.region [⟨(some 9), .plain (.move (.const (.int .i64 (0)))), []⟩])
  (.seq (.seq (.region [⟨(some 10), .plain (.move (.const (.int .i64 (0)))), []⟩])
    (.block 0 (.loop 2800 [0, 3, 8, 9, 10])))
  (.seq (.seq (.region [⟨(some 45), .plain (.move (.tmp 9)), []⟩,
        ⟨(some 46), .plain (.move (.tmp 3)), []⟩,
        ⟨(some 47), .plain (.bin .gtr (.tmp 45) (.tmp 46)), []⟩])
    (.cond (.tmp 47) (.seq (.region [⟨(some 8), .plain (.move (.const (.int .i64 (-1)))), []⟩])
      (.ret))
    (.skip)))
  (.seq (.region [⟨(some 48), .plain (.move (.tmp 9)), []⟩,
      ⟨(some 8), .plain (.move (.tmp 48)), []⟩])
  (.ret))))))⟩
theorem comp28 : compF Tryd.prog an28 Tryd.f28 = some ir28 := by kernel_rfl
theorem lps28 : loopsF Tryd.prog an28 Tryd.f28 = [(2800, [0, 3, 8, 9, 10], some lb2800)] := by kernel_rfl
/-- noonmark/clock.pair -/
def an30 : An := (.s .z (.s .z .z))
def ir30 : IFun := ⟨14, [.tmp 2],
  .seq (.region [⟨(some 2), .plain (.move (.const (.string ⟨#[]⟩))), []⟩])
  (.seq (.region [⟨(some 3), .plain (.move (.tmp 0)), []⟩,
      ⟨(some 4), .plain (.bin .quo (.tmp 3) (.const (.int .i64 (10)))), []⟩,
      ⟨(some 5), .plain (.toInt .u8 (.tmp 4)), []⟩,
      ⟨(some 6), .plain (.bin .add (.const (.int .u8 (48))) (.tmp 5)), []⟩,
      ⟨(some 7), .plain (.move (.tmp 0)), []⟩,
      ⟨(some 8), .plain (.bin .rem (.tmp 7) (.const (.int .i64 (10)))), []⟩,
      ⟨(some 9), .plain (.toInt .u8 (.tmp 8)), []⟩,
      ⟨(some 10), .plain (.bin .add (.const (.int .u8 (48))) (.tmp 9)), []⟩,
      ⟨(some 11), .plain (.lit 1 2 [(.int .u8 (0))] [(0, (.tmp 6)), (1, (.tmp 10))]), []⟩,
      ⟨(some 12), .plain (.toStr (.tmp 11)), []⟩,
      ⟨(some 13), .plain (.bin .add (.const (.string ⟨#[58]⟩)) (.tmp 12)), []⟩,
      ⟨(some 2), .plain (.move (.tmp 13)), []⟩])
  (.ret))⟩
theorem comp30 : compF Tryd.prog an30 Tryd.f30 = some ir30 := by kernel_rfl
theorem lps30 : loopsF Tryd.prog an30 Tryd.f30 = [] := by kernel_rfl
/-- noonmark/noonmarkref02.Int -/
def an31 : An := (.s .z (.s (.s .z (.s (.s .z .z) .z)) (.s .z .z)))
def ir31 : IFun := ⟨11, [.tmp 2],
  .seq (.region [⟨(some 2), .plain (.move (.const (.string ⟨#[]⟩))), []⟩])
  (.seq (.seq (.region [⟨(some 3), .plain (.move (.tmp 0)), []⟩,
        ⟨(some 4), .plain (.bin .lss (.tmp 3) (.const (.int .i64 (0)))), []⟩])
    (.cond (.tmp 4) (.seq (.region [⟨(some 5), .plain (.move (.tmp 0)), []⟩,
          ⟨(some 6), .call 39 [(.tmp 5)], []⟩,
          ⟨(some 7), .plain (.bin .add (.const (.string ⟨#[45]⟩)) (.tmp 6)), []⟩,
          ⟨(some 2), .plain (.move (.tmp 7)), []⟩])
      (.ret))
    (.skip)))
  (.seq (.region [⟨(some 8), .plain (.move (.tmp 0)), []⟩,
      ⟨(some 9), .plain (.un .neg (.tmp 8)), []⟩,
      ⟨(some 10), .call 39 [(.tmp 9)], []⟩,
      ⟨(some 2), .plain (.move (.tmp 10)), []⟩])
  (.ret)))⟩
theorem comp31 : compF Tryd.prog an31 Tryd.f31 = some ir31 := by kernel_rfl
theorem lps31 : loopsF Tryd.prog an31 Tryd.f31 = [] := by kernel_rfl
/-- noonmark/noonmarkref05.two -/
def an32 : An := (.s .z (.s .z .z))
def ir32 : IFun := ⟨14, [.tmp 2],
  .seq (.region [⟨(some 2), .plain (.move (.const (.string ⟨#[]⟩))), []⟩])
  (.seq (.region [⟨(some 3), .plain (.move (.tmp 0)), []⟩,
      ⟨(some 4), .plain (.bin .quo (.tmp 3) (.const (.int .i64 (10)))), []⟩,
      ⟨(some 5), .plain (.bin .add (.const (.int .i64 (48))) (.tmp 4)), []⟩,
      ⟨(some 6), .plain (.toInt .u8 (.tmp 5)), []⟩,
      ⟨(some 7), .plain (.move (.tmp 0)), []⟩,
      ⟨(some 8), .plain (.bin .rem (.tmp 7) (.const (.int .i64 (10)))), []⟩,
      ⟨(some 9), .plain (.bin .add (.const (.int .i64 (48))) (.tmp 8)), []⟩,
      ⟨(some 10), .plain (.toInt .u8 (.tmp 9)), []⟩,
      ⟨(some 11), .plain (.lit 1 2 [(.int .u8 (0))] [(0, (.tmp 6)), (1, (.tmp 10))]), []⟩,
      ⟨(some 12), .plain (.toStr (.tmp 11)), []⟩,
      ⟨(some 13), .plain (.bin .add (.const (.string ⟨#[58]⟩)) (.tmp 12)), []⟩,
      ⟨(some 2), .plain (.move (.tmp 13)), []⟩])
  (.ret))⟩
theorem comp32 : compF Tryd.prog an32 Tryd.f32 = some ir32 := by kernel_rfl
theorem lps32 : loopsF Tryd.prog an32 Tryd.f32 = [] := by kernel_rfl
/-- internal/stringslite.CutPrefix -/
def an33 : An := (.s .z (.s (.s .z (.s (.s .z .z) .z)) (.s .z .z)))
def ir33 : IFun := ⟨15, [.tmp 4, .tmp 5],
  .seq (.region [⟨(some 4), .plain (.move (.const (.string ⟨#[]⟩))), []⟩,
      ⟨(some 5), .plain (.move (.const (.bool false))), []⟩])
  (.seq (.seq (.region [⟨(some 6), .plain (.move (.tmp 0)), []⟩,
        ⟨(some 7), .plain (.move (.tmp 1)), []⟩,
        ⟨(some 8), .call 40 [(.tmp 6), (.tmp 7)], []⟩,
        ⟨(some 9), .plain (.un .not (.tmp 8)), []⟩])
    (.cond (.tmp 9) (.seq (.region [⟨(some 10), .plain (.move (.tmp 0)), []⟩,
          ⟨(some 4), .plain (.move (.tmp 10)), []⟩,
          ⟨(some 5), .plain (.move (.const (.bool false))), []⟩])
      (.ret))
    (.skip)))
  (.seq (.region [⟨(some 11), .plain (.move (.tmp 0)), []⟩,
      ⟨(some 12), .plain (.move (.tmp 1)), []⟩,
      ⟨(some 13), .plain (.len true (.tmp 12)), []⟩,
      ⟨(some 14), .plain (.cutStr (.tmp 11) (some (.tmp 13)) none), []⟩,
      ⟨(some 4), .plain (.move (.tmp 14)), []⟩,
      ⟨(some 5), .plain (.move (.const (.bool true))), []⟩])
  (.ret)))⟩
theorem comp33 : compF Tryd.prog an33 Tryd.f33 = some ir33 := by kernel_rfl
theorem lps33 : loopsF Tryd.prog an33 Tryd.f33 = [] := by kernel_rfl
/-- (*noonmark/clock.reader).take -/
def an37 : An := (.s .z (.s .z (.s .z (.s .z .z))))
def ir37 : IFun := ⟨18, [.tmp 2],
  .seq (.region [⟨(some 2), .plain (.move (.const (.string ⟨#[]⟩))), []⟩])
  (.seq (.region [⟨(some 7), .plain (.move (.tmp 0)), []⟩,
      ⟨(some 8), .plain (.nilCheck (.tmp 7)), []⟩,
      ⟨(some 9), .plain (.load 1 false (.tmp 8)), []⟩,
      ⟨(some 10), .call 42 [(.tmp 9), (.const (.string ⟨#[58]⟩))], []⟩,
      ⟨(some 6), .plain (.move (.tmp 10)), []⟩,
      ⟨(some 11), .plain (.extract 0 (.tmp 6)), []⟩,
      ⟨(some 12), .plain (.extract 1 (.tmp 6)), []⟩,
      ⟨(some 13), .plain (.extract 2 (.tmp 6)), []⟩,
      ⟨(some 3), .plain (.move (.tmp 11)), []⟩,
      ⟨(some 4), .plain (.move (.tmp 12)), []⟩,
      ⟨(some 5), .plain (.move (.tmp 13)), []⟩])
  (.seq (.region [⟨(some 14), .plain (.move (.tmp 0)), []⟩,
      ⟨(some 15), .plain (.move (.tmp 4)), []⟩,
      ⟨(some 16), .plain (.nilCheck (.tmp 14)), []⟩,
      ⟨none, .plain (.store 1 (.tmp 16) (.tmp 15)), []⟩])
  (.seq (.region [⟨(some 17), .plain (.move (.tmp 3)), []⟩,
      ⟨(some 2), .plain (.move (.tmp 17)), []⟩])
  (.ret))))⟩
theorem comp37 : compF Tryd.prog an37 Tryd.f37 = some ir37 := by kernel_rfl
theorem lps37 : loopsF Tryd.prog an37 Tryd.f37 = [] := by kernel_rfl
/-- noonmark/noonmarkref02.digits -/
def an39 : An := (.s .z (.s .z (.s (.s .z (.s (.s .z .z) .z)) (.s .z .z))))
def ir39 : IFun := ⟨18, [.tmp 2],
  .seq (.region [⟨(some 2), .plain (.move (.const (.string ⟨#[]⟩))), []⟩])
  (.seq (.region [⟨(some 4), .plain (.move (.tmp 0)), []⟩,
      ⟨(some 5), .plain (.bin .rem (.tmp 4) (.const (.int .i64 (10)))), []⟩,
      ⟨(some 6), .plain (.bin .sub (.const (.int .i64 (48))) (.tmp 5)), []⟩,
      ⟨(some 7), .plain (.toInt .u8 (.tmp 6)), []⟩,
      ⟨(some 8), .plain (.lit 1 1 [(.int .u8 (0))] [(0, (.tmp 7))]), []⟩,
      ⟨(some 9), .plain (.toStr (.tmp 8)), []⟩,
      ⟨(some 3), .plain (.move (.tmp 9)), []⟩])
  (.seq (.seq (.region [⟨(some 10), .plain (.move (.tmp 0)), []⟩,
        ⟨(some 11), .plain (.bin .gtr (.tmp 10) (.const (.int .i64 (-10)))), []⟩])
    (.cond (.tmp 11) (.seq (.region [⟨(some 12), .plain (.move (.tmp 3)), []⟩,
          ⟨(some 2), .plain (.move (.tmp 12)), []⟩])
      (.ret))
    (.skip)))
  (.seq (.region [⟨(some 13), .plain (.move (.tmp 0)), []⟩,
      ⟨(some 14), .plain (.bin .quo (.tmp 13) (.const (.int .i64 (10)))), []⟩,
      ⟨(some 15), .call 39 [(.tmp 14)], []⟩,
      ⟨(some 16), .plain (.move (.tmp 3)), []⟩,
      ⟨(some 17), .plain (.bin .add (.tmp 15) (.tmp 16)), []⟩,
      ⟨(some 2), .plain (.move (.tmp 17)), []⟩])
  (.ret))))⟩
theorem comp39 : compF Tryd.prog an39 Tryd.f39 = some ir39 := by kernel_rfl
theorem lps39 : loopsF Tryd.prog an39 Tryd.f39 = [] := by kernel_rfl
/-- internal/stringslite.HasPrefix -/
def an40 : An := (.s .z (.s .z .z))
def ir40 : IFun := ⟨18, [.tmp 4],
  .seq (.region [⟨(some 4), .plain (.move (.const (.bool false))), []⟩])
  (.seq (.region [⟨(some 5), .plain (.move (.tmp 0)), []⟩,
      ⟨(some 6), .plain (.len true (.tmp 5)), []⟩,
      ⟨(some 7), .plain (.move (.tmp 1)), []⟩,
      ⟨(some 8), .plain (.len true (.tmp 7)), []⟩,
      ⟨(some 9), .plain (.bin .geq (.tmp 6) (.tmp 8)), []⟩,
      ⟨(some 10), .plain (.move (.tmp 9)), []⟩,
      ⟨(some 11), .plain (.move (.tmp 0)), [(10, true)]⟩,
      ⟨(some 12), .plain (.move (.tmp 1)), [(10, true)]⟩,
      ⟨(some 13), .plain (.len true (.tmp 12)), [(10, true)]⟩,
      ⟨(some 14), .plain (.cutStr (.tmp 11) none (some (.tmp 13))), [(10, true)]⟩,
      ⟨(some 15), .plain (.move (.tmp 1)), [(10, true)]⟩,
      ⟨(some 16), .plain (.bin .eql (.tmp 14) (.tmp 15)), [(10, true)]⟩,
      ⟨(some 17), .plain (.pick (.tmp 10) (.tmp 16) (.const (.bool false))), []⟩,
      ⟨(some 4), .plain (.move (.tmp 17)), []⟩])
  (.ret))⟩
theorem comp40 : compF Tryd.prog an40 Tryd.f40 = some ir40 := by kernel_rfl
theorem lps40 : loopsF Tryd.prog an40 Tryd.f40 = [] := by kernel_rfl
/-- internal/stringslite.Index -/
def an41 : An := (.s .z (.s .z (.s (.b (.s .z (.s (.s .z .z) (.s .z (.s (.s .z .z) (.s .z (.s (.s .z .z) (.s .z (.s (.s .z .z) .z))))))))) (.s .z (.s .z (.s .z (.s .z (.s .z (.s (.b (.l 4100 [0, 1, 4, 5, 6, 7, 8, 9, 10] (.s (.s .z (.s .z .z)) (.b (.k [0, 1, 4, 5, 6, 7, 8, 9, 10] (.s .z (.s (.s .z (.s (.s .z (.s (.s .z .z) .z)) .z)) .z)) (.s (.s .z (.s (.s .z .z) .z)) (.s .z (.s .z (.s .z (.s (.s .z (.s (.s .z (.s (.s .z .z) .z)) (.s .z .z))) (.s .z (.s (.s .z (.s (.s .z (.s (.s .z .z) .z)) (.s .z .z))) .z)))))))))))) (.s .z .z))))))))))
def lb4100 : IC :=
  .seq (.seq (.region [⟨(some 57), .plain (.move (.tmp 8)), []⟩,
        ⟨(some 58), .plain (.move (.tmp 9)), []⟩,
        ⟨(some 59), .plain (.bin .lss (.tmp 57) (.tmp 58)), []⟩])
    (.cond (.tmp 59) (.skip)
    (.exit 1)))
  (.block 2 (.cut [0, 1, 4, 5, 6, 7, 8, 9, 10] (.seq (.region [⟨(some 60), .plain (.move (.tmp 0)), []⟩,
          ⟨(some 61), .plain (.move (.tmp 8)), []⟩,
          ⟨(some 62), .plain (.byte (.tmp 60) (.tmp 61)), []⟩,
          ⟨(some 63), .plain (.move (.tmp 6)), []⟩,
          ⟨(some 64), .plain (.bin .neq (.tmp 62) (.tmp 63)), []⟩])
      (.cond (.tmp 64) (.seq (.region [⟨(some 65), .plain (.move (.tmp 0)), []⟩,
            ⟨(some 66), .plain (.move (.tmp 8)), []⟩,
            ⟨(some 67), .plain (.bin .add (.tmp 66) (.const (.int .i64 (1)))), []⟩,
            ⟨(some 68), .plain (.move (.tmp 9)), []⟩,
            ⟨(some 69), .plain (.cutStr (.tmp 65) (some (.tmp 67)) (some (.tmp 68))), []⟩,
            ⟨(some 70), .plain (.move (.tmp 6)), []⟩,
            ⟨(some 71), .call 44 [(.tmp 69), (.tmp 70)], []⟩,
            ⟨(some 11), .plain (.move (.tmp 71)), []⟩])
        (.seq (.seq (.region [⟨(some 72), .plain (.move (.tmp 11)), []⟩,
              ⟨(some 73), .plain (.bin .lss (.tmp 72) (.const (.int .i64 (0)))), []⟩])
          (.cond (.tmp 73) (.seq (.region [⟨(some 4), .plain (.move (.const (.int .i64 (-1)))), []⟩])
            (.ret))
          (.skip)))
        (.region [⟨(some 74), .plain (.move (.tmp 8)), []⟩,
          ⟨(some 75), .plain (.move (.tmp 11)), []⟩,
          ⟨(some 76), .plain (.bin .add (.tmp 75) (.const (.int .i64 (1)))), []⟩,
          ⟨(some 77), .plain (.bin .add (.tmp 74) (.tmp 76)), []⟩,
          ⟨(some 8), .plain (.move (.tmp 77)), []⟩])))
      (.skip)))
    (.seq (.seq (.region [⟨(some 78), .plain (.move (.tmp 0)), []⟩,
          ⟨(some 79), .plain (.move (.tmp 8)), []⟩,
          ⟨(some 80), .plain (.bin .add (.tmp 79) (.const (.int .i64 (1)))), []⟩,
          ⟨(some 81), .plain (.byte (.tmp 78) (.tmp 80)), []⟩,
          ⟨(some 82), .plain (.move (.tmp 7)), []⟩,
          ⟨(some 83), .plain (.bin .eql (.tmp 81) (.tmp 82)), []⟩,
          ⟨(some 84), .plain (.move (.tmp 83)), []⟩,
          ⟨(some 85), .plain (.move (.tmp 0)), [(84, true)]⟩,
          ⟨(some 86), .plain (.move (.tmp 8)), [(84, true)]⟩,
          ⟨(some 87), .plain (.move (.tmp 8)), [(84, true)]⟩,
          ⟨(some 88), .plain (.move (.tmp 5)), [(84, true)]⟩,
          ⟨(some 89), .plain (.bin .add (.tmp 87) (.tmp 88)), [(84, true)]⟩,
          ⟨(some 90), .plain (.cutStr (.tmp 85) (some (.tmp 86)) (some (.tmp 89))), [(84, true)]⟩,
          ⟨(some 91), .plain (.move (.tmp 1)), [(84, true)]⟩,
          ⟨(some 92), .plain (.bin .eql (.tmp 90) (.tmp 91)), [(84, true)]⟩,
          ⟨(some 93), .plain (.pick (.tmp 84) (.tmp 92) (.const (.bool false))), []⟩])
      (.cond (.tmp 93) (.seq (.region [⟨(some 94), .plain (.move (.tmp 8)), []⟩,
            ⟨(some 4), .plain (.move (.tmp 94)), []⟩])
        (.ret))
      (.skip)))
    (.seq (.region [⟨(some 95), .plain (.move (.tmp 8)), []⟩,
        ⟨(some 96), .plain (.bin .add (.tmp 95) (.const (.int .i64 (1)))), []⟩,
        ⟨(some 8), .plain (.move (.tmp 96)), []⟩])
    (.seq (.region [⟨(some 97), .plain (.move (.tmp 10)), []⟩,
        ⟨(some 98), .plain (.bin .add (.tmp 97) (.const (.int .i64 (1)))), []⟩,
        ⟨(some 10), .plain (.move (.tmp 98)), []⟩])
    (.seq (.region [⟨(some 99), .plain (.move (.tmp 5)), []⟩,
        ⟨(some 100), .plain (.load 1 false (.global 0)), []⟩,
        ⟨(some 101), .plain (.bin .leq (.tmp 99) (.tmp 100)), []⟩,
        ⟨(some 102), .plain (.move (.tmp 101)), []⟩,
        ⟨(some 103), .plain (.move (.tmp 10)), [(102, true)]⟩,
        ⟨(some 104), .plain (.move (.tmp 8)), [(102, true)]⟩,
        ⟨(some 105), .call 46 [(.tmp 104)], [(102, true)]⟩,
        ⟨(some 106), .plain (.bin .gtr (.tmp 103) (.tmp 105)), [(102, true)]⟩,
        ⟨(some 107), .plain (.pick (.tmp 102) (.tmp 106) (.const (.bool false))), []⟩])
    (.cond (.tmp 107) (.seq (.region [⟨(some 108), .plain (.move (.tmp 0)), []⟩,
          ⟨(some 109), .plain (.move (.tmp 8)), []⟩,
          ⟨(some 110), .plain (.cutStr (.tmp 108) (some (.tmp 109)) none), []⟩,
          ⟨(some 111), .plain (.move (.tmp 1)), []⟩,
          ⟨(some 112), .call 45 [(.tmp 110), (.tmp 111)], []⟩,
          ⟨(some 12), .plain (.move (.tmp 112)), []⟩])
      (.seq (.seq (.region [⟨(some 113), .plain (.move (.tmp 12)), []⟩,
            ⟨(some 114), .plain (.bin .geq (.tmp 113) (.const (.int .i64 (0)))), []⟩])
        (.cond (.tmp 114) (.seq (.region [⟨(some 115), .plain (.move (.tmp 12)), []⟩,
              ⟨(some 116), .plain (.move (.tmp 8)), []⟩,
              ⟨(some 117), .plain (.bin .add (.tmp 115) (.tmp 116)), []⟩,
              ⟨(some 4), .plain (.move (.tmp 117)), []⟩])
          (.ret))
        (.skip)))
      (.seq (.region [⟨(some 4), .plain (.move (.const (.int .i64 (-1)))), []⟩])
      (.ret))))
    (.seq (.region [⟨(some 118), .plain (.move (.tmp 5)), []⟩,
          ⟨(some 119), .plain (.load 1 false (.global 0)), []⟩,
          ⟨(some 120), .plain (.bin .gtr (.tmp 118) (.tmp 119)), []⟩,
          ⟨(some 121), .plain (.move (.tmp 120)), []⟩,
          ⟨(some 122), .plain (.move (.tmp 10)), [(121, true)]⟩,
          ⟨(some 123), .plain (.move (.tmp 8)), [(121, true)]⟩,
          ⟨(some 124), .plain (.bin .shr (.tmp 123) (.const (.int .u64 (4)))), [(121, true)]⟩,
          ⟨(some 125), .plain (.bin .add (.const (.int .i64 (4))) (.tmp 124)), [(121, true)]⟩,
          ⟨(some 126), .plain (.bin .geq (.tmp 122) (.tmp 125)), [(121, true)]⟩,
          ⟨(some 127), .plain (.pick (.tmp 121) (.tmp 126) (.const (.bool false))), []⟩,
          ⟨(some 128), .plain (.move (.tmp 127)), []⟩,
          ⟨(some 129), .plain (.move (.tmp 8)), [(128, true)]⟩,
          ⟨(some 130), .plain (.move (.tmp 9)), [(128, true)]⟩,
          ⟨(some 131), .plain (.bin .lss (.tmp 129) (.tmp 130)), [(128, true)]⟩,
          ⟨(some 132), .plain (.pick (.tmp 128) (.tmp 131) (.const (.bool false))), []⟩])
      (.cond (.tmp 132) (.seq (.region [⟨(some 133), .plain (.move (.tmp 0)), []⟩,
            ⟨(some 134), .plain (.move (.tmp 8)), []⟩,
            ⟨(some 135), .plain (.cutStr (.tmp 133) (some (.tmp 134)) none), []⟩,
            ⟨(some 136), .plain (.move (.tmp 1)), []⟩,
            ⟨(some 137), .call 47 [(.tmp 135), (.tmp 136)], []⟩,
            ⟨(some 13), .plain (.move (.tmp 137)), []⟩])
        (.seq (.seq (.region [⟨(some 138), .plain (.move (.tmp 13)), []⟩,
              ⟨(some 139), .plain (.bin .lss (.tmp 138) (.const (.int .i64 (0)))), []⟩])
          (.cond (.tmp 139) (.seq (.region [⟨(some 4), .plain (.move (.const (.int .i64 (-1)))), []⟩])
            (.ret))
          (.skip)))
        (.seq (.region [⟨(some 140), .plain (.move (.tmp 8)), []⟩,
            ⟨(some 141), .plain (.move (.tmp 13)), []⟩,
            ⟨(some 142), .plain (.bin .add (.tmp 140) (.tmp 141)), []⟩,
            ⟨(some 4), .plain (.move (.tmp 142)), []⟩])
        (.ret))))
      (.skip))))))))))
def ir41 : IFun := ⟨143, [.tmp 4],
  .seq (.region [⟨(some 4), .plain (.move (.const (.int .i64 (0)))), []⟩])
  (.seq (.region [⟨(some 14), .plain (.move (.tmp 1)), []⟩,
      ⟨(some 15), .plain (.len true (.tmp 14)), []⟩,
      ⟨(some 5), .plain (.move (.tmp 15)), []⟩])
  (.seq (.block 0 (.seq (.region [⟨(some 17), .plain (.move (.tmp 5)), []⟩,
          ⟨(some 18), .plain (.bin .eql (.tmp 17) (.const (.int .i64 (0)))), []⟩,
          ⟨(some 19), .plain (.move (.tmp 18)), []⟩,
          ⟨(some 20), .plain (.move (.tmp 1)), [(19, false)]⟩,
          ⟨(some 21), .plain (.move (.tmp 0)), [(19, false)]⟩,
          ⟨(some 22), .plain (.bin .eql (.tmp 20) (.tmp 21)), [(19, false)]⟩,
          ⟨(some 23), .plain (.pick (.tmp 19) (.const (.bool true)) (.tmp 22)), []⟩,
          ⟨(some 16), .plain (.move (.tmp 23)), []⟩])
      (.cond (.tmp 16) (.seq (.region [⟨(some 4), .plain (.move (.const (.int .i64 (0)))), []⟩])
        (.ret))
      (.seq (.region [⟨(some 25), .plain (.move (.tmp 5)), []⟩,
            ⟨(some 26), .plain (.bin .eql (.tmp 25) (.const (.int .i64 (1)))), []⟩,
            ⟨(some 24), .plain (.move (.tmp 26)), []⟩])
        (.cond (.tmp 24) (.seq (.region [⟨(some 27), .plain (.move (.tmp 0)), []⟩,
              ⟨(some 28), .plain (.move (.tmp 1)), []⟩,
              ⟨(some 29), .plain (.byte (.tmp 28) (.const (.int .i64 (0)))), []⟩,
              ⟨(some 30), .call 44 [(.tmp 27), (.tmp 29)], []⟩,
              ⟨(some 4), .plain (.move (.tmp 30)), []⟩])
          (.ret))
        (.seq (.region [⟨(some 32), .plain (.move (.tmp 5)), []⟩,
              ⟨(some 33), .plain (.move (.tmp 0)), []⟩,
              ⟨(some 34), .plain (.len true (.tmp 33)), []⟩,
              ⟨(some 35), .plain (.bin .geq (.tmp 32) (.tmp 34)), []⟩,
              ⟨(some 31), .plain (.move (.tmp 35)), []⟩])
          (.cond (.tmp 31) (.seq (.region [⟨(some 4), .plain (.move (.const (.int .i64 (-1)))), []⟩])
            (.ret))
          (.seq (.region [⟨(some 37), .plain (.move (.tmp 5)), []⟩,
                ⟨(some 38), .plain (.load 1 false (.global 0)), []⟩,
                ⟨(some 39), .plain (.bin .leq (.tmp 37) (.tmp 38)), []⟩,
                ⟨(some 40), .plain (.move (.tmp 39)), []⟩,
                ⟨(some 41), .plain (.move (.tmp 0)), [(40, true)]⟩,
                ⟨(some 42), .plain (.len true (.tmp 41)), [(40, true)]⟩,
                ⟨(some 43), .plain (.bin .leq (.tmp 42) (.const (.int .i64 (64)))), [(40, true)]⟩,
                ⟨(some 44), .plain (.pick (.tmp 40) (.tmp 43) (.const (.bool false))), []⟩,
                ⟨(some 36), .plain (.move (.tmp 44)), []⟩])
            (.cond (.tmp 36) (.seq (.region [⟨(some 45), .plain (.move (.tmp 0)), []⟩,
                  ⟨(some 46), .plain (.move (.tmp 1)), []⟩,
                  ⟨(some 47), .call 45 [(.tmp 45), (.tmp 46)], []⟩,
                  ⟨(some 4), .plain (.move (.tmp 47)), []⟩])
              (.ret))
            (.skip))))))))))
  (.seq (.region [⟨(some 48), .plain (.move (.tmp 1)), []⟩,
      ⟨(some 49), .plain (.byte (.tmp 48) (.const (.int .i64 (0)))), []⟩,
      ⟨(some 6), .plain (.move (.tmp 49)), []⟩])
  (.seq (.region [⟨(some 50), .plain (.move (.tmp 1)), []⟩,
      ⟨(some 51), .plain (.byte (.tmp 50) (.const (.int .i64 (1)))), []⟩,
      ⟨(some 7), .plain (.move (.tmp 51)), []⟩])
  (.seq (.region [⟨(some 8), .plain (.move (.const (.int .i64 (0)))), []⟩])
  (.seq (.region [⟨(some 52), .plain (.move (.tmp 0)), []⟩,
      ⟨(some 53), .plain (.len true (.tmp 52)), []⟩,
      ⟨(some 54), .plain (.move (.tmp 5)), []⟩,
      ⟨(some 55), .plain (.bin .sub (.tmp 53) (.tmp 54)), []⟩,
      ⟨(some 56), .plain (.bin .add (.tmp 55) (.const (.int .i64 (1)))), []⟩,
      ⟨(some 9), .plain (.move (.tmp 56)), []⟩])
  (.seq (.region [⟨(some 10), .plain (.move (.const (.int .i64 (0)))), []⟩])
  (.seq (.block 1 (.loop 4100 [0, 1, 4, 5, 6, 7, 8, 9, 10]))
  (.seq (.region [⟨(some 4), .plain (.move (.const (.int .i64 (-1)))), []⟩])
  (.ret))))))))))⟩
theorem comp41 : compF Tryd.prog an41 Tryd.f41 = some ir41 := by kernel_rfl
theorem lps41 : loopsF Tryd.prog an41 Tryd.f41 = [(4100, [0, 1, 4, 5, 6, 7, 8, 9, 10], some lb4100)] := by kernel_rfl
/-- strings.Cut -/
def an42 : An := (.s .z (.s .z .z))
def ir42 : IFun := ⟨13, [.tmp 4, .tmp 5, .tmp 6],
  .seq (.region [⟨(some 4), .plain (.move (.const (.string ⟨#[]⟩))), []⟩,
      ⟨(some 5), .plain (.move (.const (.string ⟨#[]⟩))), []⟩,
      ⟨(some 6), .plain (.move (.const (.bool false))), []⟩])
  (.seq (.region [⟨(some 7), .plain (.move (.tmp 0)), []⟩,
      ⟨(some 8), .plain (.move (.tmp 1)), []⟩,
      ⟨(some 9), .call 48 [(.tmp 7), (.tmp 8)], []⟩,
      ⟨(some 10), .plain (.extract 0 (.tmp 9)), []⟩,
      ⟨(some 11), .plain (.extract 1 (.tmp 9)), []⟩,
      ⟨(some 12), .plain (.extract 2 (.tmp 9)), []⟩,
      ⟨(some 4), .plain (.move (.tmp 10)), []⟩,
      ⟨(some 5), .plain (.move (.tmp 11)), []⟩,
      ⟨(some 6), .plain (.move (.tmp 12)), []⟩])
  (.ret))⟩
theorem comp42 : compF Tryd.prog an42 Tryd.f42 = some ir42 := by kernel_rfl
theorem lps42 : loopsF Tryd.prog an42 Tryd.f42 = [] := by kernel_rfl
/-- internal/bytealg.Cutover -/
def an46 : An := (.s .z (.s .z .z))
def ir46 : IFun := ⟨6, [.tmp 2],
  .seq (.region [⟨(some 2), .plain (.move (.const (.int .i64 (0)))), []⟩])
  (.seq (.region [⟨(some 3), .plain (.move (.tmp 0)), []⟩,
      ⟨(some 4), .plain (.bin .add (.tmp 3) (.const (.int .i64 (16)))), []⟩,
      ⟨(some 5), .plain (.bin .quo (.tmp 4) (.const (.int .i64 (8)))), []⟩,
      ⟨(some 2), .plain (.move (.tmp 5)), []⟩])
  (.ret))⟩
theorem comp46 : compF Tryd.prog an46 Tryd.f46 = some ir46 := by kernel_rfl
theorem lps46 : loopsF Tryd.prog an46 Tryd.f46 = [] := by kernel_rfl
/-- internal/bytealg.IndexRabinKarp[string] -/
def an47 : An := (.s .z (.s .z (.s .z (.s .z (.s (.s .z (.b (.l 4700 [0, 1, 5, 6, 7, 8, 9] (.s (.s .z (.s .z .z)) (.s (.b .z) .z))))) (.s (.s .z (.s (.s .z .z) .z)) (.s (.s .z (.b (.l 4701 [0, 1, 4, 5, 6, 7, 8, 10] (.s (.s .z (.s .z .z)) (.b (.s .z (.s .z (.s .z (.s .z (.s .z (.s (.s .z .z) .z))))))))))) (.s .z .z))))))))
def lb4700 : IC :=
  .seq (.seq (.region [⟨(some 18), .plain (.move (.tmp 9)), []⟩,
        ⟨(some 19), .plain (.move (.tmp 7)), []⟩,
        ⟨(some 20), .plain (.bin .lss (.tmp 18) (.tmp 19)), []⟩])
    (.cond (.tmp 20) (.skip)
    (.exit 0)))
  (.seq (.block 1 (.region [⟨(some 23), .plain (.move (.tmp 8)), []⟩,
        ⟨(some 24), .plain (.bin .mul (.tmp 23) (.const (.int .u32 (16777619)))), []⟩,
        ⟨(some 25), .plain (.move (.tmp 0)), []⟩,
        ⟨(some 26), .plain (.move (.tmp 9)), []⟩,
        ⟨(some 27), .plain (.byte (.tmp 25) (.tmp 26)), []⟩,
        ⟨(some 28), .plain (.toInt .u32 (.tmp 27)), []⟩,
        ⟨(some 29), .plain (.bin .add (.tmp 24) (.tmp 28)), []⟩,
        ⟨(some 8), .plain (.move (.tmp 29)), []⟩]))
  (.region [⟨(some 21), .plain (.move (.tmp 9)), []⟩,
    ⟨(some 22), .plain (.bin .add (.tmp 21) (.const (.int .i64 (1)))), []⟩,
    ⟨(some 9), .plain (.move (.tmp 22)), []⟩]))
def lb4701 : IC :=
  .seq (.seq (.region [⟨(some 41), .plain (.move (.tmp 10)), []⟩,
        ⟨(some 42), .plain (.move (.tmp 0)), []⟩,
        ⟨(some 43), .plain (.len true (.tmp 42)), []⟩,
        ⟨(some 44), .plain (.bin .lss (.tmp 41) (.tmp 43)), []⟩])
    (.cond (.tmp 44) (.skip)
    (.exit 2)))
  (.block 3 (.seq (.region [⟨(some 45), .plain (.move (.tmp 8)), []⟩,
        ⟨(some 46), .plain (.bin .mul (.tmp 45) (.const (.int .u32 (16777619)))), []⟩,
        ⟨(some 8), .plain (.move (.tmp 46)), []⟩])
    (.seq (.region [⟨(some 47), .plain (.move (.tmp 8)), []⟩,
        ⟨(some 48), .plain (.move (.tmp 0)), []⟩,
        ⟨(some 49), .plain (.move (.tmp 10)), []⟩,
        ⟨(some 50), .plain (.byte (.tmp 48) (.tmp 49)), []⟩,
        ⟨(some 51), .plain (.toInt .u32 (.tmp 50)), []⟩,
        ⟨(some 52), .plain (.bin .add (.tmp 47) (.tmp 51)), []⟩,
        ⟨(some 8), .plain (.move (.tmp 52)), []⟩])
    (.seq (.region [⟨(some 53), .plain (.move (.tmp 8)), []⟩,
        ⟨(some 54), .plain (.move (.tmp 6)), []⟩,
        ⟨(some 55), .plain (.move (.tmp 0)), []⟩,
        ⟨(some 56), .plain (.move (.tmp 10)), []⟩,
        ⟨(some 57), .plain (.move (.tmp 7)), []⟩,
        ⟨(some 58), .plain (.bin .sub (.tmp 56) (.tmp 57)), []⟩,
        ⟨(some 59), .plain (.byte (.tmp 55) (.tmp 58)), []⟩,
        ⟨(some 60), .plain (.toInt .u32 (.tmp 59)), []⟩,
        ⟨(some 61), .plain (.bin .mul (.tmp 54) (.tmp 60)), []⟩,
        ⟨(some 62), .plain (.bin .sub (.tmp 53) (.tmp 61)), []⟩,
        ⟨(some 8), .plain (.move (.tmp 62)), []⟩])
    (.seq (.region [⟨(some 63), .plain (.move (.tmp 10)), []⟩,
        ⟨(some 64), .plain (.bin .add (.tmp 63) (.const (.int .i64 (1)))), []⟩,
        ⟨(some 10), .plain (.move (.tmp 64)), []⟩])
    (.seq (.region [⟨(some 65), .plain (.move (.tmp 8)), []⟩,
        ⟨(some 66), .plain (.move (.tmp 5)), []⟩,
        ⟨(some 67), .plain (.bin .eql (.tmp 65) (.tmp 66)), []⟩,
        ⟨(some 68), .plain (.move (.tmp 67)), []⟩,
        ⟨(some 69), .plain (.move (.tmp 0)), [(68, true)]⟩,
        ⟨(some 70), .plain (.move (.tmp 10)), [(68, true)]⟩,
        ⟨(some 71), .plain (.move (.tmp 7)), [(68, true)]⟩,
        ⟨(some 72), .plain (.bin .sub (.tmp 70) (.tmp 71)), [(68, true)]⟩,
        ⟨(some 73), .plain (.move (.tmp 10)), [(68, true)]⟩,
        ⟨(some 74), .plain (.cutStr (.tmp 69) (some (.tmp 72)) (some (.tmp 73))), [(68, true)]⟩,
        ⟨(some 75), .plain (.move (.tmp 1)), [(68, true)]⟩,
        ⟨(some 76), .plain (.bin .eql (.tmp 74) (.tmp 75)), [(68, true)]⟩,
        ⟨(some 77), .plain (.pick (.tmp 68) (.tmp 76) (.const (.bool false))), []⟩])
    (.cond (.tmp 77) (.seq (.region [⟨(some 78), .plain (.move (.tmp 10)), []⟩,
          ⟨(some 79), .plain (.move (.tmp 7)), []⟩,
          ⟨(some 80), .plain (.bin .sub (.tmp 78) (.tmp 79)), []⟩,
          ⟨(some 4), .plain (.move (.tmp 80)), []⟩])
      (.ret))
    (.skip))))))))
def ir47 : IFun := ⟨81, [.tmp 4],
  .seq (.region [⟨(some 4), .plain (.move (.const (.int .i64 (0)))), []⟩])
  (.seq (.region [⟨(some 12), .plain (.move (.tmp 1)), []⟩,
      ⟨(some 13), .call 54 [(.tmp 12)], []⟩,
      ⟨(some 11), .plain (.move (.tmp 13)), []⟩,
      ⟨(some 14), .plain (.extract 0 (.tmp 11)), []⟩,
      ⟨(some 15), .plain (.extract 1 (.tmp 11)), []⟩,
      ⟨(some 5), .plain (.move (.tmp 14)), []⟩,
      ⟨(some 6), .plain (.move (.tmp 15)), []⟩])
  (.seq (.region [⟨(some 16), .plain (.move (.tmp 1)), []⟩,
      ⟨(some 17), .plain (.len true (.tmp 16)), []⟩,
      ⟨(some 7), .plain (.move (.tmp 17)), []⟩])
  (.seq (.region [⟨(some 8), .plain (.move (.const (.int .u32 (0)))), []⟩])
  (.seq (.seq (.region [⟨(some 9), .plain (.move (.const (.int .i64 (0)))), []⟩])
    (.block 0 (.loop 4700 [0, 1, 5, 6, 7, 8, 9])))
  (.seq (.seq (.region [⟨(some 30), .plain (.move (.tmp 8)), []⟩,
        ⟨(some 31), .plain (.move (.tmp 5)), []⟩,
        ⟨(some 32), .plain (.bin .eql (.tmp 30) (.tmp 31)), []⟩,
        ⟨(some 33), .plain (.move (.tmp 32)), []⟩,
        ⟨(some 34), .plain (.move (.tmp 0)), [(33, true)]⟩,
        ⟨(some 35), .plain (.move (.tmp 7)), [(33, true)]⟩,
        ⟨(some 36), .plain (.cutStr (.tmp 34) none (some (.tmp 35))), [(33, true)]⟩,
        ⟨(some 37), .plain (.move (.tmp 1)), [(33, true)]⟩,
        ⟨(some 38), .plain (.bin .eql (.tmp 36) (.tmp 37)), [(33, true)]⟩,
        ⟨(some 39), .plain (.pick (.tmp 33) (.tmp 38) (.const (.bool false))), []⟩])
    (.cond (.tmp 39) (.seq (.region [⟨(some 4), .plain (.move (.const (.int .i64 (0)))), []⟩])
      (.ret))
    (.skip)))
  (.seq (.seq (.region [⟨(some 40), .plain (.move (.tmp 7)), []⟩,
        ⟨(some 10), .plain (.move (.tmp 40)), []⟩])
    (.block 2 (.loop 4701 [0, 1, 4, 5, 6, 7, 8, 10])))
  (.seq (.region [⟨(some 4), .plain (.move (.const (.int .i64 (-1)))), []⟩])
  (.ret))))))))⟩
theorem comp47 : compF Tryd.prog an47 Tryd.f47 = some ir47 := by kernel_rfl
theorem lps47 : loopsF Tryd.prog an47 Tryd.f47 = [(4700, [0, 1, 5, 6, 7, 8, 9], some lb4700), (4701, [0, 1, 4, 5, 6, 7, 8, 10], some lb4701)] := by kernel_rfl
/-- internal/stringslite.Cut -/
def an48 : An := (.s .z (.s (.s .z (.s .z (.s (.s .z .z) .z))) (.s .z .z)))
def ir48 : IFun := ⟨23, [.tmp 4, .tmp 5, .tmp 6],
  .seq (.region [⟨(some 4), .plain (.move (.const (.string ⟨#[]⟩))), []⟩,
      ⟨(some 5), .plain (.move (.const (.string ⟨#[]⟩))), []⟩,
      ⟨(some 6), .plain (.move (.const (.bool false))), []⟩])
  (.seq (.seq (.region [⟨(some 8), .plain (.move (.tmp 0)), []⟩,
        ⟨(some 9), .plain (.move (.tmp 1)), []⟩,
        ⟨(some 10), .call 41 [(.tmp 8), (.tmp 9)], []⟩,
        ⟨(some 7), .plain (.move (.tmp 10)), []⟩])
    (.seq (.region [⟨(some 11), .plain (.move (.tmp 7)), []⟩,
        ⟨(some 12), .plain (.bin .geq (.tmp 11) (.const (.int .i64 (0)))), []⟩])
    (.cond (.tmp 12) (.seq (.draws [(⟨(some 13), .plain (.move (.tmp 0)), []⟩, [0], .pure),
          (⟨(some 14), .plain (.move (.tmp 7)), []⟩, [7], .pure),
          (⟨(some 15), .plain (.cutStr (.tmp 13) none (some (.tmp 14))), []⟩, [13, 14], .pure),
          (⟨(some 16), .plain (.move (.tmp 0)), []⟩, [0], .pure),
          (⟨(some 17), .plain (.move (.tmp 7)), []⟩, [7], .pure),
          (⟨(some 18), .plain (.move (.tmp 1)), []⟩, [1], .pure),
          (⟨(some 19), .plain (.len true (.tmp 18)), []⟩, [18], .pure),
          (⟨(some 20), .plain (.bin .add (.tmp 17) (.tmp 19)), []⟩, [17, 19], .pure),
          (⟨(some 21), .plain (.cutStr (.tmp 16) (some (.tmp 20)) none), []⟩, [16, 20], .pure),
          (⟨(some 4), .plain (.move (.tmp 15)), []⟩, [15], .pure),
          (⟨(some 5), .plain (.move (.tmp 21)), []⟩, [21], .pure),
          (⟨(some 6), .plain (.move (.const (.bool true))), []⟩, [], .pure)])
      (.ret))
    (.skip))))
  (.seq (.region [⟨(some 22), .plain (.move (.tmp 0)), []⟩,
      ⟨(some 4), .plain (.move (.tmp 22)), []⟩,
      ⟨(some 5), .plain (.move (.const (.string ⟨#[]⟩))), []⟩,
      ⟨(some 6), .plain (.move (.const (.bool false))), []⟩])
  (.ret)))⟩
theorem comp48 : compF Tryd.prog an48 Tryd.f48 = some ir48 := by kernel_rfl
theorem lps48 : loopsF Tryd.prog an48 Tryd.f48 = [] := by kernel_rfl
/-- internal/bytealg.hashStr[string] -/
def an54 : An := (.s .z (.s .z (.s (.s .z (.b (.l 5400 [0, 4, 5] (.s (.s .z (.s .z .z)) (.s (.b .z) .z))))) (.s .z (.s (.s .z (.b (.l 5401 [4, 6, 7, 8] (.s (.s .z (.s .z .z)) (.s (.b (.s (.s .z (.s .z .z)) .z)) .z))))) (.s .z .z))))))
def lb5400 : IC :=
  .seq (.seq (.region [⟨(some 9), .plain (.move (.tmp 5)), []⟩,
        ⟨(some 10), .plain (.move (.tmp 0)), []⟩,
        ⟨(some 11), .plain (.len true (.tmp 10)), []⟩,
        ⟨(some 12), .plain (.bin .lss (.tmp 9) (.tmp 11)), []⟩])
    (.cond (.tmp 12) (.skip)
    (.exit 0)))
  (.seq (.block 1 (.region [⟨(some 15), .plain (.move (.tmp 4)), []⟩,
        ⟨(some 16), .plain (.bin .mul (.tmp 15) (.const (.int .u32 (16777619)))), []⟩,
        ⟨(some 17), .plain (.move (.tmp 0)), []⟩,
        ⟨(some 18), .plain (.move (.tmp 5)), []⟩,
        ⟨(some 19), .plain (.byte (.tmp 17) (.tmp 18)), []⟩,
        ⟨(some 20), .plain (.toInt .u32 (.tmp 19)), []⟩,
        ⟨(some 21), .plain (.bin .add (.tmp 16) (.tmp 20)), []⟩,
        ⟨(some 4), .plain (.move (.tmp 21)), []⟩]))
  (.region [⟨(some 13), .plain (.move (.tmp 5)), []⟩,
    ⟨(some 14), .plain (.bin .add (.tmp 13) (.const (.int .i64 (1)))), []⟩,
    ⟨(some 5), .plain (.move (.tmp 14)), []⟩]))
def lb5401 : IC :=
  .seq (.seq (.region [⟨(some 24), .plain (.move (.tmp 8)), []⟩,
        ⟨(some 25), .plain (.bin .gtr (.tmp 24) (.const (.int .i64 (0)))), []⟩])
    (.cond (.tmp 25) (.skip)
    (.exit 2)))
  (.seq (.block 3 (.seq (.seq (.region [⟨(some 28), .plain (.move (.tmp 8)), []⟩,
            ⟨(some 29), .plain (.bin .and (.tmp 28) (.const (.int .i64 (1)))), []⟩,
            ⟨(some 30), .plain (.bin .neq (.tmp 29) (.const (.int .i64 (0)))), []⟩])
        (.cond (.tmp 30) (.region [⟨(some 31), .plain (.move (.tmp 6)), []⟩,
            ⟨(some 32), .plain (.move (.tmp 7)), []⟩,
            ⟨(some 33), .plain (.bin .mul (.tmp 31) (.tmp 32)), []⟩,
            ⟨(some 6), .plain (.move (.tmp 33)), []⟩])
        (.skip)))
      (.region [⟨(some 34), .plain (.move (.tmp 7)), []⟩,
        ⟨(some 35), .plain (.move (.tmp 7)), []⟩,
        ⟨(some 36), .plain (.bin .mul (.tmp 34) (.tmp 35)), []⟩,
        ⟨(some 7), .plain (.move (.tmp 36)), []⟩])))
  (.region [⟨(some 26), .plain (.move (.tmp 8)), []⟩,
    ⟨(some 27), .plain (.bin .shr (.tmp 26) (.const (.int .u64 (1)))), []⟩,
    ⟨(some 8), .plain (.move (.tmp 27)), []⟩]))
def ir54 : IFun := ⟨39, [.tmp 2, .tmp 3],
  .seq (.region [⟨(some 2), .plain (.move (.const (.int .u32 (0)))), []⟩,
      ⟨(some 3), .plain (.move (.const (.int .u32 (0)))), []⟩])
  (.seq (.region [⟨(some 4), .plain (.move (.const (.int .u32 (0)))), []⟩])
  (.seq (.seq (.region [⟨(some 5), .plain (.move (.const (.int .i64 (0)))), []⟩])
    (.block 0 (.loop 5400 [0, 4, 5])))
  (.seq (.region [⟨(some 6), .plain (.move (.const (.int .u32 (1)))), []⟩,
      ⟨(some 7), .plain (.move (.const (.int .u32 (16777619)))), []⟩])
  (.seq (.seq (.region [⟨(some 22), .plain (.move (.tmp 0)), []⟩,
        ⟨(some 23), .plain (.len true (.tmp 22)), []⟩,
        ⟨(some 8), .plain (.move (.tmp 23)), []⟩])
    (.block 2 (.loop 5401 [4, 6, 7, 8])))
  (.seq (.region [⟨(some 37), .plain (.move (.tmp 4)), []⟩,
      ⟨(some 38), .plain (.move (.tmp 6)), []⟩,
      ⟨(some 2), .plain (.move (.tmp 37)), []⟩,
      ⟨(some 3), .plain (.move (.tmp 38)), []⟩])
  (.ret))))))⟩
theorem comp54 : compF Tryd.prog an54 Tryd.f54 = some ir54 := by kernel_rfl
theorem lps54 : loopsF Tryd.prog an54 Tryd.f54 = [(5400, [0, 4, 5], some lb5400), (5401, [4, 6, 7, 8], some lb5401)] := by kernel_rfl
def irsT : List (Nat × IFun) := [(3, ir3), (4, ir4), (5, ir5), (6, ir6), (7, ir7), (8, ir8), (9, ir9), (10, ir10), (11, ir11), (12, ir12), (13, ir13), (14, ir14), (15, ir15), (16, ir16), (17, ir17), (18, ir18), (19, ir19), (20, ir20), (21, ir21), (22, ir22), (23, ir23), (24, ir24), (26, ir26), (27, ir27), (28, ir28), (30, ir30), (31, ir31), (32, ir32), (33, ir33), (37, ir37), (39, ir39), (40, ir40), (41, ir41), (42, ir42), (46, ir46), (47, ir47), (48, ir48), (54, ir54)]
def lpsT : List (Nat × List Nat × IC) := [(500, [10, 11, 12, 13], lb500), (1900, [2, 3, 4, 5, 6, 25, 26], lb1900), (2000, [4, 5, 6, 7, 8], lb2000), (2600, [1, 2, 3, 9, 10, 16, 17, 18], lb2600), (2700, [0, 3, 4, 5], lb2700), (2800, [0, 3, 8, 9, 10], lb2800), (4100, [0, 1, 4, 5, 6, 7, 8, 9, 10], lb4100), (4700, [0, 1, 5, 6, 7, 8, 9], lb4700), (4701, [0, 1, 4, 5, 6, 7, 8, 10], lb4701), (5400, [0, 4, 5], lb5400), (5401, [4, 6, 7, 8], lb5401)]
/-- The code, with what is given. -/
def CC (gv : FuncId → Option (List Value → Mem → Option (Value × Mem))) : Code? := ⟨look irsT, look lpsT, gv⟩
theorem CC_fit (gv : FuncId → Option (List Value → Mem → Option (Value × Mem))) : ∀ f fn, (CC gv).irs f = some fn → FitF Tryd.prog (CC gv) f fn := by
  intro f fn h
  have hm := look_mem h
  simp only [irsT, List.mem_cons, List.not_mem_nil, or_false, Prod.mk.injEq] at hm
  rcases hm with ⟨rfl, rfl⟩ | ⟨rfl, rfl⟩ | ⟨rfl, rfl⟩ | ⟨rfl, rfl⟩ | ⟨rfl, rfl⟩ | ⟨rfl, rfl⟩ | ⟨rfl, rfl⟩ | ⟨rfl, rfl⟩ | ⟨rfl, rfl⟩ | ⟨rfl, rfl⟩ | ⟨rfl, rfl⟩ | ⟨rfl, rfl⟩ | ⟨rfl, rfl⟩ | ⟨rfl, rfl⟩ | ⟨rfl, rfl⟩ | ⟨rfl, rfl⟩ | ⟨rfl, rfl⟩ | ⟨rfl, rfl⟩ | ⟨rfl, rfl⟩ | ⟨rfl, rfl⟩ | ⟨rfl, rfl⟩ | ⟨rfl, rfl⟩ | ⟨rfl, rfl⟩ | ⟨rfl, rfl⟩ | ⟨rfl, rfl⟩ | ⟨rfl, rfl⟩ | ⟨rfl, rfl⟩ | ⟨rfl, rfl⟩ | ⟨rfl, rfl⟩ | ⟨rfl, rfl⟩ | ⟨rfl, rfl⟩ | ⟨rfl, rfl⟩ | ⟨rfl, rfl⟩ | ⟨rfl, rfl⟩ | ⟨rfl, rfl⟩ | ⟨rfl, rfl⟩ | ⟨rfl, rfl⟩ | ⟨rfl, rfl⟩
  · exact compF_fit Tryd.func3 comp3 (by rw [lps3]; intro x hx; cases hx)
  · exact compF_fit Tryd.func4 comp4 (by rw [lps4]; intro x hx; cases hx)
  · exact compF_fit Tryd.func5 comp5 (by rw [lps5]; intro x hx; simp only [List.mem_cons, List.not_mem_nil, or_false] at hx; rcases hx with rfl <;> exact ⟨_, rfl, rfl⟩)
  · exact compF_fit Tryd.func6 comp6 (by rw [lps6]; intro x hx; cases hx)
  · exact compF_fit Tryd.func7 comp7 (by rw [lps7]; intro x hx; cases hx)
  · exact compF_fit Tryd.func8 comp8 (by rw [lps8]; intro x hx; cases hx)
  · exact compF_fit Tryd.func9 comp9 (by rw [lps9]; intro x hx; cases hx)
  · exact compF_fit Tryd.func10 comp10 (by rw [lps10]; intro x hx; cases hx)
  · exact compF_fit Tryd.func11 comp11 (by rw [lps11]; intro x hx; cases hx)
  · exact compF_fit Tryd.func12 comp12 (by rw [lps12]; intro x hx; cases hx)
  · exact compF_fit Tryd.func13 comp13 (by rw [lps13]; intro x hx; cases hx)
  · exact compF_fit Tryd.func14 comp14 (by rw [lps14]; intro x hx; cases hx)
  · exact compF_fit Tryd.func15 comp15 (by rw [lps15]; intro x hx; cases hx)
  · exact compF_fit Tryd.func16 comp16 (by rw [lps16]; intro x hx; cases hx)
  · exact compF_fit Tryd.func17 comp17 (by rw [lps17]; intro x hx; cases hx)
  · exact compF_fit Tryd.func18 comp18 (by rw [lps18]; intro x hx; cases hx)
  · exact compF_fit Tryd.func19 comp19 (by rw [lps19]; intro x hx; simp only [List.mem_cons, List.not_mem_nil, or_false] at hx; rcases hx with rfl <;> exact ⟨_, rfl, rfl⟩)
  · exact compF_fit Tryd.func20 comp20 (by rw [lps20]; intro x hx; simp only [List.mem_cons, List.not_mem_nil, or_false] at hx; rcases hx with rfl <;> exact ⟨_, rfl, rfl⟩)
  · exact compF_fit Tryd.func21 comp21 (by rw [lps21]; intro x hx; cases hx)
  · exact compF_fit Tryd.func22 comp22 (by rw [lps22]; intro x hx; cases hx)
  · exact compF_fit Tryd.func23 comp23 (by rw [lps23]; intro x hx; cases hx)
  · exact compF_fit Tryd.func24 comp24 (by rw [lps24]; intro x hx; cases hx)
  · exact compF_fit Tryd.func26 comp26 (by rw [lps26]; intro x hx; simp only [List.mem_cons, List.not_mem_nil, or_false] at hx; rcases hx with rfl <;> exact ⟨_, rfl, rfl⟩)
  · exact compF_fit Tryd.func27 comp27 (by rw [lps27]; intro x hx; simp only [List.mem_cons, List.not_mem_nil, or_false] at hx; rcases hx with rfl <;> exact ⟨_, rfl, rfl⟩)
  · exact compF_fit Tryd.func28 comp28 (by rw [lps28]; intro x hx; simp only [List.mem_cons, List.not_mem_nil, or_false] at hx; rcases hx with rfl <;> exact ⟨_, rfl, rfl⟩)
  · exact compF_fit Tryd.func30 comp30 (by rw [lps30]; intro x hx; cases hx)
  · exact compF_fit Tryd.func31 comp31 (by rw [lps31]; intro x hx; cases hx)
  · exact compF_fit Tryd.func32 comp32 (by rw [lps32]; intro x hx; cases hx)
  · exact compF_fit Tryd.func33 comp33 (by rw [lps33]; intro x hx; cases hx)
  · exact compF_fit Tryd.func37 comp37 (by rw [lps37]; intro x hx; cases hx)
  · exact compF_fit Tryd.func39 comp39 (by rw [lps39]; intro x hx; cases hx)
  · exact compF_fit Tryd.func40 comp40 (by rw [lps40]; intro x hx; cases hx)
  · exact compF_fit Tryd.func41 comp41 (by rw [lps41]; intro x hx; simp only [List.mem_cons, List.not_mem_nil, or_false] at hx; rcases hx with rfl <;> exact ⟨_, rfl, rfl⟩)
  · exact compF_fit Tryd.func42 comp42 (by rw [lps42]; intro x hx; cases hx)
  · exact compF_fit Tryd.func46 comp46 (by rw [lps46]; intro x hx; cases hx)
  · exact compF_fit Tryd.func47 comp47 (by rw [lps47]; intro x hx; simp only [List.mem_cons, List.not_mem_nil, or_false] at hx; rcases hx with rfl | rfl <;> exact ⟨_, rfl, rfl⟩)
  · exact compF_fit Tryd.func48 comp48 (by rw [lps48]; intro x hx; cases hx)
  · exact compF_fit Tryd.func54 comp54 (by rw [lps54]; intro x hx; simp only [List.mem_cons, List.not_mem_nil, or_false] at hx; rcases hx with rfl | rfl <;> exact ⟨_, rfl, rfl⟩)
end Go.Proofs.YtbccdlbibcbcfaaDoor.D
