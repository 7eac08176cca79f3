/-
  The code that the statements reach, read: printed by Vtool, checked by the kernel.
-/
import Derived.Test.YthihiidooomdnaaDoorD21
import Derived.Test.YthihiidooomdnaaDoorProg
namespace Go.Proofs.YthihiidooomdnaaDoor.D
open Go.RowKit
set_option maxRecDepth 100000
/-- noonmark/noonmarklaw01.WireFrames -/
def an3 : An := (.s .z (.s .z (.s .z (.s .z .z))))
def ir3 : IFun := ⟨28, [.tmp 2],
  .seq (.region [⟨(some 2), .plain (.move (.const (.bool false))), []⟩])
  (.seq (.region [⟨(some 8), .plain (.move (.tmp 0)), []⟩,
      ⟨(some 9), .call 6 [(.tmp 8)], []⟩,
      ⟨(some 7), .plain (.move (.tmp 9)), []⟩,
      ⟨(some 10), .plain (.extract 0 (.tmp 7)), []⟩,
      ⟨(some 11), .plain (.extract 1 (.tmp 7)), []⟩,
      ⟨(some 3), .plain (.move (.tmp 10)), []⟩,
      ⟨(some 4), .plain (.move (.tmp 11)), []⟩])
  (.seq (.region [⟨(some 13), .plain (.move (.tmp 0)), []⟩,
      ⟨(some 14), .call 7 [(.tmp 13)], []⟩,
      ⟨(some 12), .plain (.move (.tmp 14)), []⟩,
      ⟨(some 15), .plain (.extract 0 (.tmp 12)), []⟩,
      ⟨(some 16), .plain (.extract 1 (.tmp 12)), []⟩,
      ⟨(some 5), .plain (.move (.tmp 15)), []⟩,
      ⟨(some 6), .plain (.move (.tmp 16)), []⟩])
  (.seq (.region [⟨(some 17), .plain (.move (.tmp 3)), []⟩,
      ⟨(some 18), .plain (.move (.tmp 5)), []⟩,
      ⟨(some 19), .call 8 [(.tmp 17), (.tmp 18)], []⟩,
      ⟨(some 20), .plain (.move (.tmp 19)), []⟩,
      ⟨(some 21), .plain (.move (.tmp 4)), [(20, true)]⟩,
      ⟨(some 22), .plain (.move (.tmp 6)), [(20, true)]⟩,
      ⟨(some 23), .plain (.bin .eql (.tmp 21) (.tmp 22)), [(20, true)]⟩,
      ⟨(some 24), .plain (.pick (.tmp 20) (.tmp 23) (.const (.bool false))), []⟩,
      ⟨(some 25), .plain (.move (.tmp 24)), []⟩,
      ⟨(some 26), .call 9 [], [(25, true)]⟩,
      ⟨(some 27), .plain (.pick (.tmp 25) (.tmp 26) (.const (.bool false))), []⟩,
      ⟨(some 2), .plain (.move (.tmp 27)), []⟩])
  (.ret))))⟩
theorem comp3 : compF Tryd.prog an3 Tryd.f3 = some ir3 := by kernel_rfl
theorem lps3 : loopsF Tryd.prog an3 Tryd.f3 = [] := by kernel_rfl
/-- noonmark/noonmarklaw01.WireBack -/
def an4 : An := (.s .z (.s (.s .z (.s (.s .z .z) .z)) (.s .z (.s (.s .z (.b (.l 400 [0, 2, 3, 4] (.s (.s .z (.s .z .z)) (.s (.b (.s .z (.s (.s .z (.s (.s .z .z) .z)) .z))) .z))))) (.s .z (.s (.s .z (.s (.s .z .z) .z)) (.s (.s .z (.b (.l 401 [0, 2, 7, 9] (.s (.s .z (.s .z .z)) (.s (.b (.s .z (.s (.s .z .z) .z))) .z))))) (.s .z .z))))))))
def lb400 : IC :=
  .seq (.seq (.region [⟨(some 14), .plain (.move (.tmp 4)), []⟩,
        ⟨(some 15), .plain (.move (.tmp 0)), []⟩,
        ⟨(some 16), .plain (.len false (.tmp 15)), []⟩,
        ⟨(some 17), .plain (.bin .lss (.tmp 14) (.tmp 16)), []⟩])
    (.cond (.tmp 17) (.skip)
    (.exit 0)))
  (.seq (.block 1 (.seq (.region [⟨(some 21), .plain (.move (.tmp 0)), []⟩,
          ⟨(some 22), .plain (.move (.tmp 4)), []⟩,
          ⟨(some 23), .plain (.idx 1 (.tmp 21) (.tmp 22)), []⟩,
          ⟨(some 24), .plain (.load 1 false (.tmp 23)), []⟩,
          ⟨(some 25), .call 6 [(.tmp 24)], []⟩,
          ⟨(some 20), .plain (.move (.tmp 25)), []⟩,
          ⟨(some 26), .plain (.extract 0 (.tmp 20)), []⟩,
          ⟨(some 27), .plain (.extract 1 (.tmp 20)), []⟩,
          ⟨(some 5), .plain (.move (.tmp 26)), []⟩,
          ⟨(some 6), .plain (.move (.tmp 27)), []⟩])
      (.seq (.seq (.region [⟨(some 28), .plain (.move (.tmp 6)), []⟩,
            ⟨(some 29), .plain (.bin .neq (.tmp 28) (.const (.int .i64 (0)))), []⟩])
        (.cond (.tmp 29) (.seq (.region [⟨(some 30), .call 9 [], []⟩,
              ⟨(some 2), .plain (.move (.tmp 30)), []⟩])
          (.ret))
        (.skip)))
      (.region [⟨(some 31), .plain (.move (.tmp 3)), []⟩,
        ⟨(some 32), .plain (.move (.tmp 5)), []⟩,
        ⟨(some 33), .plain (.app false 1 1 (.tmp 31) (.tmp 32)), []⟩,
        ⟨(some 3), .plain (.move (.tmp 33)), []⟩]))))
  (.region [⟨(some 18), .plain (.move (.tmp 4)), []⟩,
    ⟨(some 19), .plain (.bin .add (.tmp 18) (.const (.int .i64 (1)))), []⟩,
    ⟨(some 4), .plain (.move (.tmp 19)), []⟩]))
def lb401 : IC :=
  .seq (.seq (.region [⟨(some 49), .plain (.move (.tmp 9)), []⟩,
        ⟨(some 50), .plain (.move (.tmp 0)), []⟩,
        ⟨(some 51), .plain (.len false (.tmp 50)), []⟩,
        ⟨(some 52), .plain (.bin .lss (.tmp 49) (.tmp 51)), []⟩])
    (.cond (.tmp 52) (.skip)
    (.exit 2)))
  (.seq (.block 3 (.seq (.draws [(⟨(some 55), .plain (.move (.tmp 7)), []⟩, [7], .pure),
          (⟨(some 56), .plain (.move (.tmp 9)), []⟩, [9], .pure),
          (⟨(some 57), .plain (.idx 2 (.tmp 55) (.tmp 56)), []⟩, [55, 56], .pure),
          (⟨(some 58), .plain (.fieldAddr 0 (.tmp 57)), []⟩, [57], .pure),
          (⟨(some 59), .plain (.load 1 false (.tmp 58)), []⟩, [58], .quiet),
          (⟨(some 60), .plain (.move (.tmp 59)), []⟩, [59], .pure),
          (⟨(some 61), .plain (.move (.tmp 7)), [(60, false)]⟩, [7, 60], .pure),
          (⟨(some 62), .plain (.move (.tmp 9)), [(60, false)]⟩, [9, 60], .pure),
          (⟨(some 63), .plain (.idx 2 (.tmp 61) (.tmp 62)), [(60, false)]⟩, [61, 62, 60], .pure),
          (⟨(some 64), .plain (.fieldAddr 1 (.tmp 63)), [(60, false)]⟩, [63, 60], .pure),
          (⟨(some 65), .plain (.load 1 false (.tmp 64)), [(60, false)]⟩, [64, 60], .quiet),
          (⟨(some 66), .plain (.move (.tmp 0)), [(60, false)]⟩, [0, 60], .pure),
          (⟨(some 67), .plain (.move (.tmp 9)), [(60, false)]⟩, [9, 60], .pure),
          (⟨(some 68), .plain (.idx 1 (.tmp 66) (.tmp 67)), [(60, false)]⟩, [66, 67, 60], .pure),
          (⟨(some 69), .plain (.load 1 false (.tmp 68)), [(60, false)]⟩, [68, 60], .quiet),
          (⟨(some 70), .call 8 [(.tmp 65), (.tmp 69)], [(60, false)]⟩, [65, 69, 60], .lone),
          (⟨(some 71), .plain (.un .not (.tmp 70)), [(60, false)]⟩, [70, 60], .pure),
          (⟨(some 72), .plain (.pick (.tmp 60) (.const (.bool true)) (.tmp 71)), []⟩, [60, 71], .pure)])
      (.cond (.tmp 72) (.seq (.region [⟨(some 2), .plain (.move (.const (.bool false))), []⟩])
        (.ret))
      (.skip))))
  (.region [⟨(some 53), .plain (.move (.tmp 9)), []⟩,
    ⟨(some 54), .plain (.bin .add (.tmp 53) (.const (.int .i64 (1)))), []⟩,
    ⟨(some 9), .plain (.move (.tmp 54)), []⟩]))
def ir4 : IFun := ⟨74, [.tmp 2],
  .seq (.region [⟨(some 2), .plain (.move (.const (.bool false))), []⟩])
  (.seq (.seq (.region [⟨(some 10), .plain (.move (.tmp 0)), []⟩,
        ⟨(some 11), .plain (.len false (.tmp 10)), []⟩,
        ⟨(some 12), .plain (.bin .gtr (.tmp 11) (.const (.int .i64 (50)))), []⟩])
    (.cond (.tmp 12) (.seq (.region [⟨(some 13), .call 9 [], []⟩,
          ⟨(some 2), .plain (.move (.tmp 13)), []⟩])
      (.ret))
    (.skip)))
  (.seq (.region [⟨(some 3), .plain (.move (.const (.slice none 0 0))), []⟩])
  (.seq (.seq (.region [⟨(some 4), .plain (.move (.const (.int .i64 (0)))), []⟩])
    (.block 0 (.loop 400 [0, 2, 3, 4])))
  (.seq (.region [⟨(some 35), .plain (.move (.tmp 3)), []⟩,
      ⟨(some 36), .call 10 [(.tmp 35)], []⟩,
      ⟨(some 34), .plain (.move (.tmp 36)), []⟩,
      ⟨(some 37), .plain (.extract 0 (.tmp 34)), []⟩,
      ⟨(some 38), .plain (.extract 1 (.tmp 34)), []⟩,
      ⟨(some 7), .plain (.move (.tmp 37)), []⟩,
      ⟨(some 8), .plain (.move (.tmp 38)), []⟩])
  (.seq (.seq (.region [⟨(some 39), .plain (.move (.tmp 7)), []⟩,
        ⟨(some 40), .plain (.len false (.tmp 39)), []⟩,
        ⟨(some 41), .plain (.move (.tmp 0)), []⟩,
        ⟨(some 42), .plain (.len false (.tmp 41)), []⟩,
        ⟨(some 43), .plain (.bin .neq (.tmp 40) (.tmp 42)), []⟩,
        ⟨(some 44), .plain (.move (.tmp 43)), []⟩,
        ⟨(some 45), .plain (.move (.tmp 8)), [(44, false)]⟩,
        ⟨(some 46), .plain (.len false (.tmp 45)), [(44, false)]⟩,
        ⟨(some 47), .plain (.bin .neq (.tmp 46) (.const (.int .i64 (0)))), [(44, false)]⟩,
        ⟨(some 48), .plain (.pick (.tmp 44) (.const (.bool true)) (.tmp 47)), []⟩])
    (.cond (.tmp 48) (.seq (.region [⟨(some 2), .plain (.move (.const (.bool false))), []⟩])
      (.ret))
    (.skip)))
  (.seq (.seq (.region [⟨(some 9), .plain (.move (.const (.int .i64 (0)))), []⟩])
    (.block 2 (.loop 401 [0, 2, 7, 9])))
  (.seq (.region [⟨(some 73), .call 9 [], []⟩,
      ⟨(some 2), .plain (.move (.tmp 73)), []⟩])
  (.ret))))))))⟩
theorem comp4 : compF Tryd.prog an4 Tryd.f4 = some ir4 := by kernel_rfl
theorem lps4 : loopsF Tryd.prog an4 Tryd.f4 = [(400, [0, 2, 3, 4], some lb400), (401, [0, 2, 7, 9], some lb401)] := by kernel_rfl
/-- noonmark/noonmarklaw01.WireAgain -/
def an5 : An := (.s .z (.s .z (.s (.s .z (.s (.s .z .z) .z)) (.s .z (.s (.s .z (.b (.l 500 [0, 1, 5, 7, 8] (.s (.s .z (.s .z .z)) (.s (.b (.s .z (.s .z .z))) .z))))) (.s .z (.s .z .z)))))))
def lb500 : IC :=
  .seq (.seq (.region [⟨(some 25), .plain (.move (.tmp 8)), []⟩,
        ⟨(some 26), .plain (.move (.tmp 0)), []⟩,
        ⟨(some 27), .plain (.len false (.tmp 26)), []⟩,
        ⟨(some 28), .plain (.bin .lss (.tmp 25) (.tmp 27)), []⟩])
    (.cond (.tmp 28) (.skip)
    (.exit 0)))
  (.seq (.block 1 (.seq (.region [⟨(some 31), .plain (.move (.tmp 0)), []⟩,
          ⟨(some 32), .plain (.move (.tmp 8)), []⟩,
          ⟨(some 33), .plain (.idx 1 (.tmp 31) (.tmp 32)), []⟩,
          ⟨(some 34), .plain (.load 1 false (.tmp 33)), []⟩,
          ⟨(some 35), .plain (.bin .neq (.tmp 34) (.const (.int .u8 (10)))), []⟩])
      (.cond (.tmp 35) (.region [⟨(some 36), .plain (.move (.tmp 7)), []⟩,
          ⟨(some 37), .plain (.move (.tmp 0)), []⟩,
          ⟨(some 38), .plain (.move (.tmp 8)), []⟩,
          ⟨(some 39), .plain (.idx 1 (.tmp 37) (.tmp 38)), []⟩,
          ⟨(some 40), .plain (.load 1 false (.tmp 39)), []⟩,
          ⟨(some 41), .plain (.lit 1 1 [(.int .u8 (0))] [(0, (.tmp 40))]), []⟩,
          ⟨(some 42), .plain (.app false 1 1 (.tmp 36) (.tmp 41)), []⟩,
          ⟨(some 7), .plain (.move (.tmp 42)), []⟩])
      (.skip))))
  (.region [⟨(some 29), .plain (.move (.tmp 8)), []⟩,
    ⟨(some 30), .plain (.bin .add (.tmp 29) (.const (.int .i64 (1)))), []⟩,
    ⟨(some 8), .plain (.move (.tmp 30)), []⟩]))
def ir5 : IFun := ⟨94, [.tmp 4],
  .seq (.region [⟨(some 4), .plain (.move (.const (.bool false))), []⟩])
  (.seq (.region [⟨(some 12), .plain (.move (.tmp 1)), []⟩,
      ⟨(some 13), .call 6 [(.tmp 12)], []⟩,
      ⟨(some 11), .plain (.move (.tmp 13)), []⟩,
      ⟨(some 14), .plain (.extract 0 (.tmp 11)), []⟩,
      ⟨(some 15), .plain (.extract 1 (.tmp 11)), []⟩,
      ⟨(some 5), .plain (.move (.tmp 14)), []⟩,
      ⟨(some 6), .plain (.move (.tmp 15)), []⟩])
  (.seq (.seq (.region [⟨(some 16), .plain (.move (.tmp 6)), []⟩,
        ⟨(some 17), .plain (.bin .neq (.tmp 16) (.const (.int .i64 (0)))), []⟩,
        ⟨(some 18), .plain (.move (.tmp 17)), []⟩,
        ⟨(some 19), .plain (.move (.tmp 0)), [(18, false)]⟩,
        ⟨(some 20), .plain (.len false (.tmp 19)), [(18, false)]⟩,
        ⟨(some 21), .plain (.bin .gtr (.tmp 20) (.const (.int .i64 (2000)))), [(18, false)]⟩,
        ⟨(some 22), .plain (.pick (.tmp 18) (.const (.bool true)) (.tmp 21)), []⟩])
    (.cond (.tmp 22) (.seq (.region [⟨(some 23), .call 9 [], []⟩,
          ⟨(some 4), .plain (.move (.tmp 23)), []⟩])
      (.ret))
    (.skip)))
  (.seq (.region [⟨(some 24), .plain (.lit 1 1 [(.int .u8 (0))] [(0, (.const (.int .u8 (120))))]), []⟩,
      ⟨(some 7), .plain (.move (.tmp 24)), []⟩])
  (.seq (.seq (.region [⟨(some 8), .plain (.move (.const (.int .i64 (0)))), []⟩])
    (.block 0 (.loop 500 [0, 1, 5, 7, 8])))
  (.seq (.region [⟨(some 44), .plain (.lit 1 0 [(.int .u8 (0))] []), []⟩,
      ⟨(some 45), .plain (.move (.tmp 7)), []⟩,
      ⟨(some 46), .plain (.app false 1 1 (.tmp 44) (.tmp 45)), []⟩,
      ⟨(some 47), .plain (.lit 1 1 [(.int .u8 (0))] [(0, (.const (.int .u8 (10))))]), []⟩,
      ⟨(some 48), .plain (.app false 1 1 (.tmp 46) (.tmp 47)), []⟩,
      ⟨(some 49), .plain (.move (.tmp 5)), []⟩,
      ⟨(some 50), .plain (.app false 1 1 (.tmp 48) (.tmp 49)), []⟩,
      ⟨(some 51), .call 10 [(.tmp 50)], []⟩,
      ⟨(some 43), .plain (.move (.tmp 51)), []⟩,
      ⟨(some 52), .plain (.extract 0 (.tmp 43)), []⟩,
      ⟨(some 53), .plain (.extract 1 (.tmp 43)), []⟩,
      ⟨(some 9), .plain (.move (.tmp 52)), []⟩,
      ⟨(some 10), .plain (.move (.tmp 53)), []⟩])
  (.seq (.region [⟨(some 54), .plain (.move (.tmp 9)), []⟩,
      ⟨(some 55), .plain (.len false (.tmp 54)), []⟩,
      ⟨(some 56), .plain (.bin .eql (.tmp 55) (.const (.int .i64 (2)))), []⟩,
      ⟨(some 57), .plain (.move (.tmp 56)), []⟩,
      ⟨(some 58), .plain (.move (.tmp 9)), [(57, true)]⟩,
      ⟨(some 59), .plain (.idx 2 (.tmp 58) (.const (.int .i64 (0)))), [(57, true)]⟩,
      ⟨(some 60), .plain (.fieldAddr 0 (.tmp 59)), [(57, true)]⟩,
      ⟨(some 61), .plain (.load 1 false (.tmp 60)), [(57, true)]⟩,
      ⟨(some 62), .plain (.pick (.tmp 57) (.tmp 61) (.const (.bool false))), []⟩,
      ⟨(some 63), .plain (.move (.tmp 62)), []⟩,
      ⟨(some 64), .plain (.move (.tmp 9)), [(63, true)]⟩,
      ⟨(some 65), .plain (.idx 2 (.tmp 64) (.const (.int .i64 (0)))), [(63, true)]⟩,
      ⟨(some 66), .plain (.fieldAddr 1 (.tmp 65)), [(63, true)]⟩,
      ⟨(some 67), .plain (.load 1 false (.tmp 66)), [(63, true)]⟩,
      ⟨(some 68), .plain (.len false (.tmp 67)), [(63, true)]⟩,
      ⟨(some 69), .plain (.bin .eql (.tmp 68) (.const (.int .i64 (0)))), [(63, true)]⟩,
      ⟨(some 70), .plain (.pick (.tmp 63) (.tmp 69) (.const (.bool false))), []⟩,
      ⟨(some 71), .plain (.move (.tmp 70)), []⟩,
      ⟨(some 72), .plain (.move (.tmp 9)), [(71, true)]⟩,
      ⟨(some 73), .plain (.idx 2 (.tmp 72) (.const (.int .i64 (1)))), [(71, true)]⟩,
      ⟨(some 74), .plain (.fieldAddr 0 (.tmp 73)), [(71, true)]⟩,
      ⟨(some 75), .plain (.load 1 false (.tmp 74)), [(71, true)]⟩,
      ⟨(some 76), .plain (.un .not (.tmp 75)), [(71, true)]⟩,
      ⟨(some 77), .plain (.pick (.tmp 71) (.tmp 76) (.const (.bool false))), []⟩,
      ⟨(some 78), .plain (.move (.tmp 77)), []⟩,
      ⟨(some 79), .plain (.move (.tmp 9)), [(78, true)]⟩,
      ⟨(some 80), .plain (.idx 2 (.tmp 79) (.const (.int .i64 (1)))), [(78, true)]⟩,
      ⟨(some 81), .plain (.fieldAddr 1 (.tmp 80)), [(78, true)]⟩,
      ⟨(some 82), .plain (.load 1 false (.tmp 81)), [(78, true)]⟩,
      ⟨(some 83), .plain (.move (.tmp 1)), [(78, true)]⟩,
      ⟨(some 84), .call 8 [(.tmp 82), (.tmp 83)], [(78, true)]⟩,
      ⟨(some 85), .plain (.pick (.tmp 78) (.tmp 84) (.const (.bool false))), []⟩,
      ⟨(some 86), .plain (.move (.tmp 85)), []⟩,
      ⟨(some 87), .plain (.move (.tmp 10)), [(86, true)]⟩,
      ⟨(some 88), .plain (.len false (.tmp 87)), [(86, true)]⟩,
      ⟨(some 89), .plain (.bin .eql (.tmp 88) (.const (.int .i64 (0)))), [(86, true)]⟩,
      ⟨(some 90), .plain (.pick (.tmp 86) (.tmp 89) (.const (.bool false))), []⟩,
      ⟨(some 91), .plain (.move (.tmp 90)), []⟩,
      ⟨(some 92), .call 9 [], [(91, true)]⟩,
      ⟨(some 93), .plain (.pick (.tmp 91) (.tmp 92) (.const (.bool false))), []⟩,
      ⟨(some 4), .plain (.move (.tmp 93)), []⟩])
  (.ret)))))))⟩
theorem comp5 : compF Tryd.prog an5 Tryd.f5 = some ir5 := by kernel_rfl
theorem lps5 : loopsF Tryd.prog an5 Tryd.f5 = [(500, [0, 1, 5, 7, 8], some lb500)] := by kernel_rfl
/-- noonmark/wire.Frame -/
def an6 : An := (.s .z (.s (.s .z (.s (.s .z .z) .z)) (.s .z (.s .z (.s .z .z)))))
def ir6 : IFun := ⟨19, [.tmp 2, .tmp 3],
  .seq (.region [⟨(some 2), .plain (.move (.const (.slice none 0 0))), []⟩,
      ⟨(some 3), .plain (.move (.const (.int .i64 (0)))), []⟩])
  (.seq (.seq (.region [⟨(some 5), .plain (.move (.tmp 0)), []⟩,
        ⟨(some 6), .plain (.len false (.tmp 5)), []⟩,
        ⟨(some 7), .plain (.bin .gtr (.tmp 6) (.const (.int .i64 (20000)))), []⟩])
    (.cond (.tmp 7) (.seq (.region [⟨(some 2), .plain (.move (.const (.slice none 0 0))), []⟩,
          ⟨(some 3), .plain (.move (.const (.int .i64 (17)))), []⟩])
      (.ret))
    (.skip)))
  (.seq (.region [⟨(some 8), .plain (.move (.tmp 0)), []⟩,
      ⟨(some 9), .plain (.len false (.tmp 8)), []⟩,
      ⟨(some 10), .call 11 [(.const (.slice none 0 0)), (.tmp 9), (.const (.int .i64 (10)))], []⟩,
      ⟨(some 4), .plain (.move (.tmp 10)), []⟩])
  (.seq (.region [⟨(some 11), .plain (.move (.tmp 4)), []⟩,
      ⟨(some 12), .plain (.lit 1 1 [(.int .u8 (0))] [(0, (.const (.int .u8 (58))))]), []⟩,
      ⟨(some 13), .plain (.app false 1 1 (.tmp 11) (.tmp 12)), []⟩,
      ⟨(some 14), .plain (.move (.tmp 0)), []⟩,
      ⟨(some 15), .plain (.app false 1 1 (.tmp 13) (.tmp 14)), []⟩,
      ⟨(some 4), .plain (.move (.tmp 15)), []⟩])
  (.seq (.region [⟨(some 16), .plain (.move (.tmp 4)), []⟩,
      ⟨(some 17), .plain (.lit 1 1 [(.int .u8 (0))] [(0, (.const (.int .u8 (10))))]), []⟩,
      ⟨(some 18), .plain (.app false 1 1 (.tmp 16) (.tmp 17)), []⟩,
      ⟨(some 2), .plain (.move (.tmp 18)), []⟩,
      ⟨(some 3), .plain (.move (.const (.int .i64 (0)))), []⟩])
  (.ret)))))⟩
theorem comp6 : compF Tryd.prog an6 Tryd.f6 = some ir6 := by kernel_rfl
theorem lps6 : loopsF Tryd.prog an6 Tryd.f6 = [] := by kernel_rfl
/-- noonmark/noonmarkref01.Frame -/
def an7 : An := (.s .z (.s (.s .z (.s (.s .z .z) .z)) (.s .z .z)))
def ir7 : IFun := ⟨16, [.tmp 2, .tmp 3],
  .seq (.region [⟨(some 2), .plain (.move (.const (.slice none 0 0))), []⟩,
      ⟨(some 3), .plain (.move (.const (.int .i64 (0)))), []⟩])
  (.seq (.seq (.region [⟨(some 4), .plain (.move (.tmp 0)), []⟩,
        ⟨(some 5), .plain (.len false (.tmp 4)), []⟩,
        ⟨(some 6), .plain (.bin .gtr (.tmp 5) (.const (.int .i64 (20000)))), []⟩])
    (.cond (.tmp 6) (.seq (.region [⟨(some 2), .plain (.move (.const (.slice none 0 0))), []⟩,
          ⟨(some 3), .plain (.move (.const (.int .i64 (17)))), []⟩])
      (.ret))
    (.skip)))
  (.seq (.region [⟨(some 7), .plain (.move (.tmp 0)), []⟩,
      ⟨(some 8), .plain (.len false (.tmp 7)), []⟩,
      ⟨(some 9), .call 12 [(.tmp 8)], []⟩,
      ⟨(some 10), .plain (.bin .add (.tmp 9) (.const (.string ⟨#[58]⟩))), []⟩,
      ⟨(some 11), .plain (.toBytes (.tmp 10)), []⟩,
      ⟨(some 12), .plain (.move (.tmp 0)), []⟩,
      ⟨(some 13), .plain (.app false 1 1 (.tmp 11) (.tmp 12)), []⟩,
      ⟨(some 14), .plain (.lit 1 1 [(.int .u8 (0))] [(0, (.const (.int .u8 (10))))]), []⟩,
      ⟨(some 15), .plain (.app false 1 1 (.tmp 13) (.tmp 14)), []⟩,
      ⟨(some 2), .plain (.move (.tmp 15)), []⟩,
      ⟨(some 3), .plain (.move (.const (.int .i64 (0)))), []⟩])
  (.ret)))⟩
theorem comp7 : compF Tryd.prog an7 Tryd.f7 = some ir7 := by kernel_rfl
theorem lps7 : loopsF Tryd.prog an7 Tryd.f7 = [] := by kernel_rfl
/-- noonmark/noonmarkref01.Same -/
def an8 : An := (.s .z (.s (.s .z (.s (.s .z .z) .z)) (.s (.s .z (.b (.l 800 [0, 1, 4, 5] (.s (.s .z (.s .z .z)) (.s (.b (.s .z (.s (.s .z .z) .z))) .z))))) (.s .z .z))))
def lb800 : IC :=
  .seq (.seq (.region [⟨(some 11), .plain (.move (.tmp 5)), []⟩,
        ⟨(some 12), .plain (.move (.tmp 0)), []⟩,
        ⟨(some 13), .plain (.len false (.tmp 12)), []⟩,
        ⟨(some 14), .plain (.bin .lss (.tmp 11) (.tmp 13)), []⟩])
    (.cond (.tmp 14) (.skip)
    (.exit 0)))
  (.seq (.block 1 (.seq (.draws [(⟨(some 17), .plain (.move (.tmp 0)), []⟩, [0], .pure),
          (⟨(some 18), .plain (.move (.tmp 5)), []⟩, [5], .pure),
          (⟨(some 19), .plain (.idx 1 (.tmp 17) (.tmp 18)), []⟩, [17, 18], .pure),
          (⟨(some 20), .plain (.load 1 false (.tmp 19)), []⟩, [19], .quiet),
          (⟨(some 21), .plain (.move (.tmp 1)), []⟩, [1], .pure),
          (⟨(some 22), .plain (.move (.tmp 5)), []⟩, [5], .pure),
          (⟨(some 23), .plain (.idx 1 (.tmp 21) (.tmp 22)), []⟩, [21, 22], .pure),
          (⟨(some 24), .plain (.load 1 false (.tmp 23)), []⟩, [23], .quiet),
          (⟨(some 25), .plain (.bin .neq (.tmp 20) (.tmp 24)), []⟩, [20, 24], .pure)])
      (.cond (.tmp 25) (.seq (.region [⟨(some 4), .plain (.move (.const (.bool false))), []⟩])
        (.ret))
      (.skip))))
  (.region [⟨(some 15), .plain (.move (.tmp 5)), []⟩,
    ⟨(some 16), .plain (.bin .add (.tmp 15) (.const (.int .i64 (1)))), []⟩,
    ⟨(some 5), .plain (.move (.tmp 16)), []⟩]))
def ir8 : IFun := ⟨26, [.tmp 4],
  .seq (.region [⟨(some 4), .plain (.move (.const (.bool false))), []⟩])
  (.seq (.seq (.region [⟨(some 6), .plain (.move (.tmp 0)), []⟩,
        ⟨(some 7), .plain (.len false (.tmp 6)), []⟩,
        ⟨(some 8), .plain (.move (.tmp 1)), []⟩,
        ⟨(some 9), .plain (.len false (.tmp 8)), []⟩,
        ⟨(some 10), .plain (.bin .neq (.tmp 7) (.tmp 9)), []⟩])
    (.cond (.tmp 10) (.seq (.region [⟨(some 4), .plain (.move (.const (.bool false))), []⟩])
      (.ret))
    (.skip)))
  (.seq (.seq (.region [⟨(some 5), .plain (.move (.const (.int .i64 (0)))), []⟩])
    (.block 0 (.loop 800 [0, 1, 4, 5])))
  (.seq (.region [⟨(some 4), .plain (.move (.const (.bool true))), []⟩])
  (.ret))))⟩
theorem comp8 : compF Tryd.prog an8 Tryd.f8 = some ir8 := by kernel_rfl
theorem lps8 : loopsF Tryd.prog an8 Tryd.f8 = [(800, [0, 1, 4, 5], some lb800)] := by kernel_rfl
/-- noonmark/noonmarklaw01.alive -/
def an9 : An := (.s .z (.s .z (.s .z (.s .z .z))))
def ir9 : IFun := ⟨56, [.tmp 0],
  .seq (.region [⟨(some 0), .plain (.move (.const (.bool false))), []⟩])
  (.seq (.region [⟨(some 6), .plain (.lit 1 8 [(.int .u8 (0))] [(0, (.const (.int .u8 (53)))), (1, (.const (.int .u8 (58)))), (2, (.const (.int .u8 (104)))), (3, (.const (.int .u8 (101)))), (4, (.const (.int .u8 (108)))), (5, (.const (.int .u8 (108)))), (6, (.const (.int .u8 (111)))), (7, (.const (.int .u8 (10))))]), []⟩,
      ⟨(some 7), .plain (.mark (.tmp 6)), []⟩,
      ⟨(some 8), .call 10 [(.tmp 7)], []⟩,
      ⟨(some 5), .plain (.move (.tmp 8)), []⟩,
      ⟨(some 9), .plain (.extract 0 (.tmp 5)), []⟩,
      ⟨(some 10), .plain (.extract 1 (.tmp 5)), []⟩,
      ⟨(some 1), .plain (.move (.tmp 9)), []⟩,
      ⟨(some 2), .plain (.move (.tmp 10)), []⟩])
  (.seq (.region [⟨(some 12), .plain (.lit 1 5 [(.int .u8 (0))] [(0, (.const (.int .u8 (120)))), (1, (.const (.int .u8 (10)))), (2, (.const (.int .u8 (48)))), (3, (.const (.int .u8 (58)))), (4, (.const (.int .u8 (10))))]), []⟩,
      ⟨(some 13), .plain (.mark (.tmp 12)), []⟩,
      ⟨(some 14), .call 10 [(.tmp 13)], []⟩,
      ⟨(some 11), .plain (.move (.tmp 14)), []⟩,
      ⟨(some 15), .plain (.extract 0 (.tmp 11)), []⟩,
      ⟨(some 16), .plain (.extract 1 (.tmp 11)), []⟩,
      ⟨(some 3), .plain (.move (.tmp 15)), []⟩,
      ⟨(some 4), .plain (.move (.tmp 16)), []⟩])
  (.seq (.region [⟨(some 17), .plain (.move (.tmp 1)), []⟩,
      ⟨(some 18), .plain (.len false (.tmp 17)), []⟩,
      ⟨(some 19), .plain (.bin .eql (.tmp 18) (.const (.int .i64 (1)))), []⟩,
      ⟨(some 20), .plain (.move (.tmp 19)), []⟩,
      ⟨(some 21), .plain (.move (.tmp 1)), [(20, true)]⟩,
      ⟨(some 22), .plain (.idx 2 (.tmp 21) (.const (.int .i64 (0)))), [(20, true)]⟩,
      ⟨(some 23), .plain (.fieldAddr 1 (.tmp 22)), [(20, true)]⟩,
      ⟨(some 24), .plain (.load 1 false (.tmp 23)), [(20, true)]⟩,
      ⟨(some 25), .plain (.toStr (.tmp 24)), [(20, true)]⟩,
      ⟨(some 26), .plain (.bin .eql (.tmp 25) (.const (.string ⟨#[104, 101, 108, 108, 111]⟩))), [(20, true)]⟩,
      ⟨(some 27), .plain (.pick (.tmp 20) (.tmp 26) (.const (.bool false))), []⟩,
      ⟨(some 28), .plain (.move (.tmp 27)), []⟩,
      ⟨(some 29), .plain (.move (.tmp 2)), [(28, true)]⟩,
      ⟨(some 30), .plain (.len false (.tmp 29)), [(28, true)]⟩,
      ⟨(some 31), .plain (.bin .eql (.tmp 30) (.const (.int .i64 (0)))), [(28, true)]⟩,
      ⟨(some 32), .plain (.pick (.tmp 28) (.tmp 31) (.const (.bool false))), []⟩,
      ⟨(some 33), .plain (.move (.tmp 32)), []⟩,
      ⟨(some 34), .plain (.move (.tmp 3)), [(33, true)]⟩,
      ⟨(some 35), .plain (.len false (.tmp 34)), [(33, true)]⟩,
      ⟨(some 36), .plain (.bin .eql (.tmp 35) (.const (.int .i64 (2)))), [(33, true)]⟩,
      ⟨(some 37), .plain (.pick (.tmp 33) (.tmp 36) (.const (.bool false))), []⟩,
      ⟨(some 38), .plain (.move (.tmp 37)), []⟩,
      ⟨(some 39), .plain (.move (.tmp 3)), [(38, true)]⟩,
      ⟨(some 40), .plain (.idx 2 (.tmp 39) (.const (.int .i64 (0)))), [(38, true)]⟩,
      ⟨(some 41), .plain (.fieldAddr 0 (.tmp 40)), [(38, true)]⟩,
      ⟨(some 42), .plain (.load 1 false (.tmp 41)), [(38, true)]⟩,
      ⟨(some 43), .plain (.pick (.tmp 38) (.tmp 42) (.const (.bool false))), []⟩,
      ⟨(some 44), .plain (.move (.tmp 43)), []⟩,
      ⟨(some 45), .plain (.move (.tmp 3)), [(44, true)]⟩,
      ⟨(some 46), .plain (.idx 2 (.tmp 45) (.const (.int .i64 (1)))), [(44, true)]⟩,
      ⟨(some 47), .plain (.fieldAddr 0 (.tmp 46)), [(44, true)]⟩,
      ⟨(some 48), .plain (.load 1 false (.tmp 47)), [(44, true)]⟩,
      ⟨(some 49), .plain (.un .not (.tmp 48)), [(44, true)]⟩,
      ⟨(some 50), .plain (.pick (.tmp 44) (.tmp 49) (.const (.bool false))), []⟩,
      ⟨(some 51), .plain (.move (.tmp 50)), []⟩,
      ⟨(some 52), .plain (.move (.tmp 4)), [(51, true)]⟩,
      ⟨(some 53), .plain (.len false (.tmp 52)), [(51, true)]⟩,
      ⟨(some 54), .plain (.bin .eql (.tmp 53) (.const (.int .i64 (0)))), [(51, true)]⟩,
      ⟨(some 55), .plain (.pick (.tmp 51) (.tmp 54) (.const (.bool false))), []⟩,
      ⟨(some 0), .plain (.move (.tmp 55)), []⟩])
  (.ret))))⟩
theorem comp9 : compF Tryd.prog an9 Tryd.f9 = some ir9 := by kernel_rfl
theorem lps9 : loopsF Tryd.prog an9 Tryd.f9 = [] := by kernel_rfl
/-- noonmark/wire.Split -/
def an10 : An := (.s .z (.s .z (.s .z (.s .z .z))))
def ir10 : IFun := ⟨12, [.tmp 2, .tmp 3],
  .seq (.region [⟨(some 2), .plain (.move (.const (.slice none 0 0))), []⟩,
      ⟨(some 3), .plain (.move (.const (.slice none 0 0))), []⟩])
  (.seq (.region [⟨(some 5), .call 13 [], []⟩,
      ⟨(some 4), .plain (.move (.tmp 5)), []⟩])
  (.seq (.region [⟨(some 6), .plain (.move (.tmp 4)), []⟩,
      ⟨(some 7), .plain (.move (.tmp 0)), []⟩,
      ⟨(some 8), .call 14 [(.tmp 6), (.tmp 7)], []⟩,
      ⟨(some 2), .plain (.move (.tmp 8)), []⟩])
  (.seq (.region [⟨(some 9), .plain (.move (.tmp 2)), []⟩,
      ⟨(some 10), .plain (.move (.tmp 4)), []⟩,
      ⟨(some 11), .call 15 [(.tmp 10)], []⟩,
      ⟨(some 2), .plain (.move (.tmp 9)), []⟩,
      ⟨(some 3), .plain (.move (.tmp 11)), []⟩])
  (.ret))))⟩
theorem comp10 : compF Tryd.prog an10 Tryd.f10 = some ir10 := by kernel_rfl
theorem lps10 : loopsF Tryd.prog an10 Tryd.f10 = [] := by kernel_rfl
/-- strconv.AppendInt -/
def an11 : An := (.s .z (.s .z .z))
def ir11 : IFun := ⟨11, [.tmp 6],
  .seq (.region [⟨(some 6), .plain (.move (.const (.slice none 0 0))), []⟩])
  (.seq (.region [⟨(some 7), .plain (.move (.tmp 0)), []⟩,
      ⟨(some 8), .plain (.move (.tmp 1)), []⟩,
      ⟨(some 9), .plain (.move (.tmp 2)), []⟩,
      ⟨(some 10), .call 16 [(.tmp 7), (.tmp 8), (.tmp 9)], []⟩,
      ⟨(some 6), .plain (.move (.tmp 10)), []⟩])
  (.ret))⟩
theorem comp11 : compF Tryd.prog an11 Tryd.f11 = some ir11 := by kernel_rfl
theorem lps11 : loopsF Tryd.prog an11 Tryd.f11 = [] := by kernel_rfl
/-- noonmark/noonmarkref01.Digits -/
def an12 : An := (.s .z (.s .z (.s (.s .z (.s (.s .z .z) .z)) (.s .z .z))))
def ir12 : IFun := ⟨18, [.tmp 2],
  .seq (.region [⟨(some 2), .plain (.move (.const (.string ⟨#[]⟩))), []⟩])
  (.seq (.region [⟨(some 4), .plain (.move (.tmp 0)), []⟩,
      ⟨(some 5), .plain (.bin .rem (.tmp 4) (.const (.int .i64 (10)))), []⟩,
      ⟨(some 6), .plain (.bin .add (.const (.int .i64 (48))) (.tmp 5)), []⟩,
      ⟨(some 7), .plain (.toInt .u8 (.tmp 6)), []⟩,
      ⟨(some 8), .plain (.lit 1 1 [(.int .u8 (0))] [(0, (.tmp 7))]), []⟩,
      ⟨(some 9), .plain (.toStr (.tmp 8)), []⟩,
      ⟨(some 3), .plain (.move (.tmp 9)), []⟩])
  (.seq (.seq (.region [⟨(some 10), .plain (.move (.tmp 0)), []⟩,
        ⟨(some 11), .plain (.bin .lss (.tmp 10) (.const (.int .i64 (10)))), []⟩])
    (.cond (.tmp 11) (.seq (.region [⟨(some 12), .plain (.move (.tmp 3)), []⟩,
          ⟨(some 2), .plain (.move (.tmp 12)), []⟩])
      (.ret))
    (.skip)))
  (.seq (.region [⟨(some 13), .plain (.move (.tmp 0)), []⟩,
      ⟨(some 14), .plain (.bin .quo (.tmp 13) (.const (.int .i64 (10)))), []⟩,
      ⟨(some 15), .call 12 [(.tmp 14)], []⟩,
      ⟨(some 16), .plain (.move (.tmp 3)), []⟩,
      ⟨(some 17), .plain (.bin .add (.tmp 15) (.tmp 16)), []⟩,
      ⟨(some 2), .plain (.move (.tmp 17)), []⟩])
  (.ret))))⟩
theorem comp12 : compF Tryd.prog an12 Tryd.f12 = some ir12 := by kernel_rfl
theorem lps12 : loopsF Tryd.prog an12 Tryd.f12 = [] := by kernel_rfl
/-- noonmark/wire.New -/
def an13 : An := (.s .z (.s .z .z))
def ir13 : IFun := ⟨3, [.tmp 0],
  .seq (.region [⟨(some 0), .plain (.move (.const (.pointer none))), []⟩])
  (.seq (.region [⟨(some 1), .plain (.build [(0, 1), (1, 1), (2, 1), (3, 1), (4, 1)] [(.int .i64 (0)), (.slice none 0 0), (.int .i64 (0)), (.int .i64 (0)), (.slice none 0 0)] []), []⟩,
      ⟨(some 2), .plain (.box 0 (.tmp 1)), []⟩,
      ⟨(some 0), .plain (.move (.tmp 2)), []⟩])
  (.ret))⟩
theorem comp13 : compF Tryd.prog an13 Tryd.f13 = some ir13 := by kernel_rfl
theorem lps13 : loopsF Tryd.prog an13 Tryd.f13 = [] := by kernel_rfl
/-- (*noonmark/wire.Splitter).Feed -/
def an14 : An := (.s .z (.s (.s .z (.s (.s .z .z) .z)) (.s (.s .z (.b (.l 1400 [0, 10, 11, 12] (.s .z (.s (.s .z .z) (.s (.b (.s .z .z)) .z)))))) (.s .z (.s .z (.s .z .z))))))
def lb1400 : IC :=
  .seq (.region [⟨(some 13), .plain (.bin .lss (.tmp 12) (.tmp 11)), []⟩])
  (.seq (.cond (.tmp 13) (.skip)
    (.exit 0))
  (.seq (.block 1 (.seq (.region [⟨(some 14), .plain (.idx 1 (.tmp 10) (.tmp 12)), []⟩,
          ⟨(some 15), .plain (.load 1 false (.tmp 14)), []⟩,
          ⟨(some 6), .plain (.move (.tmp 15)), []⟩])
      (.region [⟨(some 16), .plain (.move (.tmp 0)), []⟩,
        ⟨(some 17), .call 17 [(.tmp 16)], []⟩,
        ⟨(some 18), .plain (.move (.tmp 6)), []⟩,
        ⟨(some 19), .callV (.tmp 17) [(.tmp 18)], []⟩])))
  (.region [⟨(some 20), .plain (.bin .add (.tmp 12) (.const (.int .i64 (1)))), []⟩,
    ⟨(some 12), .plain (.move (.tmp 20)), []⟩])))
def ir14 : IFun := ⟨29, [.tmp 4],
  .seq (.region [⟨(some 4), .plain (.move (.const (.slice none 0 0))), []⟩])
  (.seq (.seq (.region [⟨(some 8), .plain (.move (.tmp 0)), []⟩,
        ⟨(some 9), .plain (.isNil .ptr false (.tmp 8)), []⟩])
    (.cond (.tmp 9) (.seq (.region [⟨(some 4), .plain (.move (.const (.slice none 0 0))), []⟩])
      (.ret))
    (.skip)))
  (.seq (.seq (.region [⟨(some 10), .plain (.move (.tmp 1)), []⟩,
        ⟨(some 11), .plain (.len false (.tmp 10)), []⟩,
        ⟨(some 12), .plain (.move (.const (.int .i64 (0)))), []⟩])
    (.block 0 (.loop 1400 [0, 10, 11, 12])))
  (.seq (.region [⟨(some 21), .plain (.move (.tmp 0)), []⟩,
      ⟨(some 22), .plain (.nilCheck (.tmp 21)), []⟩,
      ⟨(some 23), .plain (.fieldAddr 4 (.tmp 22)), []⟩,
      ⟨(some 24), .plain (.load 1 false (.tmp 23)), []⟩,
      ⟨(some 7), .plain (.move (.tmp 24)), []⟩])
  (.seq (.region [⟨(some 25), .plain (.move (.tmp 0)), []⟩,
      ⟨(some 26), .plain (.nilCheck (.tmp 25)), []⟩,
      ⟨(some 27), .plain (.fieldAddr 4 (.tmp 26)), []⟩,
      ⟨none, .plain (.store 1 (.tmp 27) (.const (.slice none 0 0))), []⟩])
  (.seq (.region [⟨(some 28), .plain (.move (.tmp 7)), []⟩,
      ⟨(some 4), .plain (.move (.tmp 28)), []⟩])
  (.ret))))))⟩
theorem comp14 : compF Tryd.prog an14 Tryd.f14 = some ir14 := by kernel_rfl
theorem lps14 : loopsF Tryd.prog an14 Tryd.f14 = [(1400, [0, 10, 11, 12], some lb1400)] := by kernel_rfl
/-- (*noonmark/wire.Splitter).Rest -/
def an15 : An := (.s .z (.s (.s .z (.s (.s .z .z) .z)) (.s .z .z)))
def ir15 : IFun := ⟨10, [.tmp 2],
  .seq (.region [⟨(some 2), .plain (.move (.const (.slice none 0 0))), []⟩])
  (.seq (.seq (.region [⟨(some 3), .plain (.move (.tmp 0)), []⟩,
        ⟨(some 4), .plain (.isNil .ptr false (.tmp 3)), []⟩])
    (.cond (.tmp 4) (.seq (.region [⟨(some 2), .plain (.move (.const (.slice none 0 0))), []⟩])
      (.ret))
    (.skip)))
  (.seq (.region [⟨(some 5), .plain (.move (.tmp 0)), []⟩,
      ⟨(some 6), .plain (.nilCheck (.tmp 5)), []⟩,
      ⟨(some 7), .plain (.fieldAddr 1 (.tmp 6)), []⟩,
      ⟨(some 8), .plain (.load 1 false (.tmp 7)), []⟩,
      ⟨(some 9), .call 18 [(.tmp 8)], []⟩,
      ⟨(some 2), .plain (.move (.tmp 9)), []⟩])
  (.ret)))⟩
theorem comp15 : compF Tryd.prog an15 Tryd.f15 = some ir15 := by kernel_rfl
theorem lps15 : loopsF Tryd.prog an15 Tryd.f15 = [] := by kernel_rfl
/-- internal/strconv.AppendInt -/
def an16 : An := (.s .z (.s .z (.s (.s .z (.s (.s .z .z) .z)) (.s .z .z))))
def ir16 : IFun := ⟨21, [.tmp 6],
  .seq (.region [⟨(some 6), .plain (.move (.const (.slice none 0 0))), []⟩])
  (.seq (.region [⟨(some 8), .plain (.move (.tmp 1)), []⟩,
      ⟨(some 9), .plain (.toInt .u64 (.tmp 8)), []⟩,
      ⟨(some 7), .plain (.move (.tmp 9)), []⟩])
  (.seq (.seq (.region [⟨(some 10), .plain (.move (.tmp 1)), []⟩,
        ⟨(some 11), .plain (.bin .lss (.tmp 10) (.const (.int .i64 (0)))), []⟩])
    (.cond (.tmp 11) (.seq (.region [⟨(some 12), .plain (.move (.tmp 0)), []⟩,
          ⟨(some 13), .plain (.lit 1 1 [(.int .u8 (0))] [(0, (.const (.int .u8 (45))))]), []⟩,
          ⟨(some 14), .plain (.app false 1 1 (.tmp 12) (.tmp 13)), []⟩,
          ⟨(some 0), .plain (.move (.tmp 14)), []⟩])
      (.region [⟨(some 15), .plain (.move (.tmp 7)), []⟩,
        ⟨(some 16), .plain (.un .neg (.tmp 15)), []⟩,
        ⟨(some 7), .plain (.move (.tmp 16)), []⟩]))
    (.skip)))
  (.seq (.region [⟨(some 17), .plain (.move (.tmp 0)), []⟩,
      ⟨(some 18), .plain (.move (.tmp 7)), []⟩,
      ⟨(some 19), .plain (.move (.tmp 2)), []⟩,
      ⟨(some 20), .call 19 [(.tmp 17), (.tmp 18), (.tmp 19)], []⟩,
      ⟨(some 6), .plain (.move (.tmp 20)), []⟩])
  (.ret))))⟩
theorem comp16 : compF Tryd.prog an16 Tryd.f16 = some ir16 := by kernel_rfl
theorem lps16 : loopsF Tryd.prog an16 Tryd.f16 = [] := by kernel_rfl
/-- (*noonmark/wire.Splitter).take -/
def an17 : An := (.s .z (.s (.s .z (.b (.s .z (.s (.s .z .z) (.s .z (.s (.s .z .z) .z)))))) (.s .z .z)))
def ir17 : IFun := ⟨17, [.tmp 2],
  .seq (.region [⟨(some 2), .plain (.move (.const .nilFunc)), []⟩])
  (.seq (.seq (.region [⟨(some 3), .plain (.move (.tmp 0)), []⟩,
        ⟨(some 4), .plain (.nilCheck (.tmp 3)), []⟩,
        ⟨(some 5), .plain (.fieldAddr 0 (.tmp 4)), []⟩,
        ⟨(some 6), .plain (.load 1 false (.tmp 5)), []⟩])
    (.block 0 (.seq (.region [⟨(some 8), .plain (.bin .eql (.tmp 6) (.const (.int .i64 (1)))), []⟩,
          ⟨(some 7), .plain (.move (.tmp 8)), []⟩])
      (.cond (.tmp 7) (.seq (.region [⟨(some 9), .plain (.move (.tmp 0)), []⟩,
            ⟨(some 10), .plain (.func (.func 20) [(.tmp 9)] []), []⟩,
            ⟨(some 2), .plain (.move (.tmp 10)), []⟩])
        (.ret))
      (.seq (.region [⟨(some 12), .plain (.bin .eql (.tmp 6) (.const (.int .i64 (2)))), []⟩,
            ⟨(some 11), .plain (.move (.tmp 12)), []⟩])
        (.cond (.tmp 11) (.seq (.region [⟨(some 13), .plain (.move (.tmp 0)), []⟩,
              ⟨(some 14), .plain (.func (.func 21) [(.tmp 13)] []), []⟩,
              ⟨(some 2), .plain (.move (.tmp 14)), []⟩])
          (.ret))
        (.skip)))))))
  (.seq (.region [⟨(some 15), .plain (.move (.tmp 0)), []⟩,
      ⟨(some 16), .plain (.func (.func 22) [(.tmp 15)] []), []⟩,
      ⟨(some 2), .plain (.move (.tmp 16)), []⟩])
  (.ret)))⟩
theorem comp17 : compF Tryd.prog an17 Tryd.f17 = some ir17 := by kernel_rfl
theorem lps17 : loopsF Tryd.prog an17 Tryd.f17 = [] := by kernel_rfl
/-- slices.Clone[[]byte,byte] -/
def an18 : An := (.s .z (.s (.s .z (.s (.s .z .z) .z)) (.s .z .z)))
def ir18 : IFun := ⟨8, [.tmp 2],
  .seq (.region [⟨(some 2), .plain (.move (.const (.slice none 0 0))), []⟩])
  (.seq (.seq (.region [⟨(some 3), .plain (.move (.tmp 0)), []⟩,
        ⟨(some 4), .plain (.isNil .slc false (.tmp 3)), []⟩])
    (.cond (.tmp 4) (.seq (.region [⟨(some 2), .plain (.move (.const (.slice none 0 0))), []⟩])
      (.ret))
    (.skip)))
  (.seq (.region [⟨(some 5), .plain (.lit 1 0 [(.int .u8 (0))] []), []⟩,
      ⟨(some 6), .plain (.move (.tmp 0)), []⟩,
      ⟨(some 7), .plain (.app false 1 1 (.tmp 5) (.tmp 6)), []⟩,
      ⟨(some 2), .plain (.move (.tmp 7)), []⟩])
  (.ret)))⟩
theorem comp18 : compF Tryd.prog an18 Tryd.f18 = some ir18 := by kernel_rfl
theorem lps18 : loopsF Tryd.prog an18 Tryd.f18 = [] := by kernel_rfl
/-- internal/strconv.AppendUint -/
def an19 : An := (.s .z (.s (.s .z (.s (.s (.s .z (.s (.s .z .z) .z)) (.s .z (.s .z (.s .z (.s .z .z))))) .z)) (.s .z (.s .z .z))))
def ir19 : IFun := ⟨36, [.tmp 6],
  .seq (.region [⟨(some 6), .plain (.move (.const (.slice none 0 0))), []⟩])
  (.seq (.seq (.region [⟨(some 9), .plain (.move (.tmp 2)), []⟩,
        ⟨(some 10), .plain (.bin .eql (.tmp 9) (.const (.int .i64 (10)))), []⟩])
    (.cond (.tmp 10) (.seq (.seq (.region [⟨(some 11), .plain (.move (.tmp 1)), []⟩,
            ⟨(some 12), .plain (.bin .lss (.tmp 11) (.const (.int .u64 (100)))), []⟩])
        (.cond (.tmp 12) (.seq (.region [⟨(some 13), .plain (.move (.tmp 0)), []⟩,
              ⟨(some 14), .plain (.move (.tmp 1)), []⟩,
              ⟨(some 15), .plain (.toInt .i64 (.tmp 14)), []⟩,
              ⟨(some 16), .call 23 [(.tmp 15)], []⟩,
              ⟨(some 17), .plain (.app true 1 1 (.tmp 13) (.tmp 16)), []⟩,
              ⟨(some 6), .plain (.move (.tmp 17)), []⟩])
          (.ret))
        (.skip)))
      (.seq (.region [⟨(some 7), .plain (.new 1 [(.int .u8 (0)), (.int .u8 (0)), (.int .u8 (0)), (.int .u8 (0)), (.int .u8 (0)), (.int .u8 (0)), (.int .u8 (0)), (.int .u8 (0)), (.int .u8 (0)), (.int .u8 (0)), (.int .u8 (0)), (.int .u8 (0)), (.int .u8 (0)), (.int .u8 (0)), (.int .u8 (0)), (.int .u8 (0)), (.int .u8 (0)), (.int .u8 (0)), (.int .u8 (0)), (.int .u8 (0)), (.int .u8 (0)), (.int .u8 (0)), (.int .u8 (0)), (.int .u8 (0))]), []⟩])
      (.seq (.region [⟨(some 18), .plain (.move (.tmp 1)), []⟩,
          ⟨(some 19), .call 24 [(.tmp 18)], []⟩,
          ⟨(some 8), .plain (.move (.tmp 19)), []⟩])
      (.seq (.region [⟨(some 20), .plain (.move (.tmp 8)), []⟩,
          ⟨(some 21), .plain (.cutArr 24 1 (.tmp 7) none (some (.tmp 20))), []⟩,
          ⟨(some 22), .plain (.move (.tmp 1)), []⟩,
          ⟨(some 23), .call 25 [(.tmp 21), (.tmp 22)], []⟩])
      (.seq (.region [⟨(some 24), .plain (.move (.tmp 0)), []⟩,
          ⟨(some 25), .plain (.move (.tmp 8)), []⟩,
          ⟨(some 26), .plain (.cutArr 24 1 (.tmp 7) none (some (.tmp 25))), []⟩,
          ⟨(some 27), .plain (.app false 1 1 (.tmp 24) (.tmp 26)), []⟩,
          ⟨(some 6), .plain (.move (.tmp 27)), []⟩])
      (.ret))))))
    (.skip)))
  (.seq (.region [⟨(some 29), .plain (.move (.tmp 0)), []⟩,
      ⟨(some 30), .plain (.move (.tmp 1)), []⟩,
      ⟨(some 31), .plain (.move (.tmp 2)), []⟩,
      ⟨(some 32), .call 26 [(.tmp 29), (.tmp 30), (.tmp 31), (.const (.bool false)), (.const (.bool true))], []⟩,
      ⟨(some 28), .plain (.move (.tmp 32)), []⟩,
      ⟨(some 33), .plain (.extract 0 (.tmp 28)), []⟩,
      ⟨(some 34), .plain (.extract 1 (.tmp 28)), []⟩,
      ⟨(some 0), .plain (.move (.tmp 33)), []⟩])
  (.seq (.region [⟨(some 35), .plain (.move (.tmp 0)), []⟩,
      ⟨(some 6), .plain (.move (.tmp 35)), []⟩])
  (.ret))))⟩
theorem comp19 : compF Tryd.prog an19 Tryd.f19 = some ir19 := by kernel_rfl
theorem lps19 : loopsF Tryd.prog an19 Tryd.f19 = [] := by kernel_rfl
/-- (*noonmark/wire.Splitter).byte -/
def an20 : An := (.s (.s .z (.s (.s .z (.s .z .z)) .z)) (.s (.s .z (.s (.s .z .z) .z)) (.s .z .z)))
def ir20 : IFun := ⟨59, [],
  .seq (.seq (.region [⟨(some 4), .plain (.move (.tmp 0)), []⟩,
        ⟨(some 5), .plain (.nilCheck (.tmp 4)), []⟩,
        ⟨(some 6), .plain (.fieldAddr 3 (.tmp 5)), []⟩,
        ⟨(some 7), .plain (.load 1 false (.tmp 6)), []⟩,
        ⟨(some 8), .plain (.bin .gtr (.tmp 7) (.const (.int .i64 (0)))), []⟩])
    (.cond (.tmp 8) (.seq (.region [⟨(some 9), .plain (.move (.tmp 0)), []⟩,
          ⟨(some 10), .plain (.nilCheck (.tmp 9)), []⟩,
          ⟨(some 11), .plain (.fieldAddr 3 (.tmp 10)), []⟩,
          ⟨(some 12), .plain (.load 1 false (.tmp 11)), []⟩,
          ⟨(some 13), .plain (.bin .sub (.tmp 12) (.const (.int .i64 (1)))), []⟩,
          ⟨(some 14), .plain (.nilCheck (.tmp 9)), []⟩,
          ⟨(some 15), .plain (.fieldAddr 3 (.tmp 14)), []⟩,
          ⟨none, .plain (.store 1 (.tmp 15) (.tmp 13)), []⟩])
      (.seq (.region [⟨(some 16), .plain (.move (.tmp 0)), []⟩,
          ⟨(some 17), .plain (.move (.tmp 0)), []⟩,
          ⟨(some 18), .plain (.nilCheck (.tmp 17)), []⟩,
          ⟨(some 19), .plain (.fieldAddr 1 (.tmp 18)), []⟩,
          ⟨(some 20), .plain (.load 1 false (.tmp 19)), []⟩,
          ⟨(some 21), .plain (.move (.tmp 1)), []⟩,
          ⟨(some 22), .plain (.lit 1 1 [(.int .u8 (0))] [(0, (.tmp 21))]), []⟩,
          ⟨(some 23), .plain (.app false 1 1 (.tmp 20) (.tmp 22)), []⟩,
          ⟨(some 24), .plain (.nilCheck (.tmp 16)), []⟩,
          ⟨(some 25), .plain (.fieldAddr 1 (.tmp 24)), []⟩,
          ⟨none, .plain (.store 1 (.tmp 25) (.tmp 23)), []⟩])
      (.ret)))
    (.skip)))
  (.seq (.seq (.region [⟨(some 26), .plain (.move (.tmp 1)), []⟩,
        ⟨(some 27), .plain (.bin .neq (.tmp 26) (.const (.int .u8 (10)))), []⟩])
    (.cond (.tmp 27) (.seq (.region [⟨(some 28), .plain (.move (.tmp 0)), []⟩,
          ⟨(some 29), .plain (.move (.tmp 1)), []⟩,
          ⟨(some 30), .call 27 [(.tmp 28), (.tmp 29)], []⟩])
      (.ret))
    (.skip)))
  (.seq (.draws [(⟨(some 31), .plain (.move (.tmp 0)), []⟩, [0], .pure),
      (⟨(some 32), .plain (.move (.tmp 0)), []⟩, [0], .pure),
      (⟨(some 33), .plain (.nilCheck (.tmp 32)), []⟩, [32], .pure),
      (⟨(some 34), .plain (.fieldAddr 4 (.tmp 33)), []⟩, [33], .pure),
      (⟨(some 35), .plain (.load 1 false (.tmp 34)), []⟩, [34], .quiet),
      (⟨(some 36), .plain (.move (.tmp 0)), []⟩, [0], .pure),
      (⟨(some 37), .plain (.nilCheck (.tmp 36)), []⟩, [36], .pure),
      (⟨(some 38), .plain (.fieldAddr 1 (.tmp 37)), []⟩, [37], .pure),
      (⟨(some 39), .plain (.load 1 false (.tmp 38)), []⟩, [38], .quiet),
      (⟨(some 40), .plain (.move (.tmp 0)), []⟩, [0], .pure),
      (⟨(some 41), .plain (.nilCheck (.tmp 40)), []⟩, [40], .pure),
      (⟨(some 42), .plain (.fieldAddr 1 (.tmp 41)), []⟩, [41], .pure),
      (⟨(some 43), .plain (.load 1 false (.tmp 42)), []⟩, [42], .quiet),
      (⟨(some 44), .plain (.len false (.tmp 43)), []⟩, [43], .pure),
      (⟨(some 45), .plain (.move (.tmp 0)), []⟩, [0], .pure),
      (⟨(some 46), .plain (.nilCheck (.tmp 45)), []⟩, [45], .pure),
      (⟨(some 47), .plain (.fieldAddr 2 (.tmp 46)), []⟩, [46], .pure),
      (⟨(some 48), .plain (.load 1 false (.tmp 47)), []⟩, [47], .quiet),
      (⟨(some 49), .plain (.bin .sub (.tmp 44) (.tmp 48)), []⟩, [44, 48], .pure),
      (⟨(some 50), .plain (.cut 1 (.tmp 39) (some (.tmp 49)) none), []⟩, [39, 49], .quiet),
      (⟨(some 51), .call 18 [(.tmp 50)], []⟩, [50], .quiet),
      (⟨(some 52), .plain (.build [(0, 1), (1, 1)] [(.bool false), (.slice none 0 0)] [(1, (.tmp 51))]), []⟩, [51], .pure),
      (⟨(some 53), .plain (.lit 2 1 [(.bool false), (.slice none 0 0)] [(0, (.tmp 52))]), []⟩, [52], .quiet),
      (⟨(some 54), .plain (.app false 2 32 (.tmp 35) (.tmp 53)), []⟩, [35, 53], .lone),
      (⟨(some 55), .plain (.nilCheck (.tmp 31)), []⟩, [31], .pure),
      (⟨(some 56), .plain (.fieldAddr 4 (.tmp 55)), []⟩, [55], .pure),
      (⟨none, .plain (.store 1 (.tmp 56) (.tmp 54)), []⟩, [56, 54], .lone)])
  (.region [⟨(some 57), .plain (.move (.tmp 0)), []⟩,
    ⟨(some 58), .call 28 [(.tmp 57)], []⟩])))⟩
theorem comp20 : compF Tryd.prog an20 Tryd.f20 = some ir20 := by kernel_rfl
theorem lps20 : loopsF Tryd.prog an20 Tryd.f20 = [] := by kernel_rfl
/-- (*noonmark/wire.Splitter).pass -/
def an21 : An := (.s .z (.s .z .z))
def ir21 : IFun := ⟨8, [],
  .seq (.region [⟨(some 4), .plain (.move (.tmp 1)), []⟩,
      ⟨(some 5), .plain (.bin .eql (.tmp 4) (.const (.int .u8 (10)))), []⟩])
  (.cond (.tmp 5) (.region [⟨(some 6), .plain (.move (.tmp 0)), []⟩,
      ⟨(some 7), .call 28 [(.tmp 6)], []⟩])
  (.skip))⟩
theorem comp21 : compF Tryd.prog an21 Tryd.f21 = some ir21 := by kernel_rfl
theorem lps21 : loopsF Tryd.prog an21 Tryd.f21 = [] := by kernel_rfl
/-- (*noonmark/wire.Splitter).digit -/
def an22 : An := (.s .z (.k [0, 1] (.b (.s .z (.s (.s (.s .z (.s (.s .z .z) .z)) .z) (.k [0, 1, 55] (.s .z (.s .z (.s .z (.s .z .z)))) (.s (.s .z .z) .z))))) .z))
def ir22 : IFun := ⟨78, [],
  .seq (.region [⟨(some 5), .plain (.move (.tmp 0)), []⟩,
      ⟨(some 6), .plain (.nilCheck (.tmp 5)), []⟩,
      ⟨(some 7), .plain (.fieldAddr 1 (.tmp 6)), []⟩,
      ⟨(some 8), .plain (.load 1 false (.tmp 7)), []⟩,
      ⟨(some 9), .plain (.len false (.tmp 8)), []⟩,
      ⟨(some 4), .plain (.move (.tmp 9)), []⟩])
  (.cut [0, 1] (.block 0 (.seq (.region [⟨(some 21), .plain (.move (.tmp 1)), []⟩,
          ⟨(some 22), .plain (.bin .leq (.const (.int .u8 (48))) (.tmp 21)), []⟩,
          ⟨(some 23), .plain (.move (.tmp 22)), []⟩,
          ⟨(some 24), .plain (.move (.tmp 1)), [(23, true)]⟩,
          ⟨(some 25), .plain (.bin .leq (.tmp 24) (.const (.int .u8 (57)))), [(23, true)]⟩,
          ⟨(some 26), .plain (.pick (.tmp 23) (.tmp 25) (.const (.bool false))), []⟩,
          ⟨(some 20), .plain (.move (.tmp 26)), []⟩])
      (.cond (.tmp 20) (.seq (.seq (.region [⟨(some 27), .plain (.move (.tmp 4)), []⟩,
              ⟨(some 28), .plain (.bin .eql (.tmp 27) (.const (.int .i64 (5)))), []⟩,
              ⟨(some 29), .plain (.move (.tmp 28)), []⟩,
              ⟨(some 30), .plain (.move (.tmp 4)), [(29, false)]⟩,
              ⟨(some 31), .plain (.bin .gtr (.tmp 30) (.const (.int .i64 (0)))), [(29, false)]⟩,
              ⟨(some 32), .plain (.move (.tmp 31)), [(29, false)]⟩,
              ⟨(some 33), .plain (.move (.tmp 0)), [(29, false), (32, true)]⟩,
              ⟨(some 34), .plain (.nilCheck (.tmp 33)), [(29, false), (32, true)]⟩,
              ⟨(some 35), .plain (.fieldAddr 2 (.tmp 34)), [(29, false), (32, true)]⟩,
              ⟨(some 36), .plain (.load 1 false (.tmp 35)), [(29, false), (32, true)]⟩,
              ⟨(some 37), .plain (.bin .eql (.tmp 36) (.const (.int .i64 (0)))), [(29, false), (32, true)]⟩,
              ⟨(some 38), .plain (.pick (.tmp 32) (.tmp 37) (.const (.bool false))), [(29, false)]⟩,
              ⟨(some 39), .plain (.pick (.tmp 29) (.const (.bool true)) (.tmp 38)), []⟩])
          (.cond (.tmp 39) (.seq (.region [⟨(some 40), .plain (.move (.tmp 0)), []⟩,
                ⟨(some 41), .plain (.move (.tmp 1)), []⟩,
                ⟨(some 42), .call 27 [(.tmp 40), (.tmp 41)], []⟩])
            (.ret))
          (.skip)))
        (.region [⟨(some 43), .plain (.move (.tmp 0)), []⟩,
          ⟨(some 44), .plain (.move (.tmp 0)), []⟩,
          ⟨(some 45), .plain (.nilCheck (.tmp 44)), []⟩,
          ⟨(some 46), .plain (.fieldAddr 2 (.tmp 45)), []⟩,
          ⟨(some 47), .plain (.load 1 false (.tmp 46)), []⟩,
          ⟨(some 48), .plain (.bin .mul (.tmp 47) (.const (.int .i64 (10)))), []⟩,
          ⟨(some 49), .plain (.move (.tmp 1)), []⟩,
          ⟨(some 50), .plain (.bin .sub (.tmp 49) (.const (.int .u8 (48)))), []⟩,
          ⟨(some 51), .plain (.toInt .i64 (.tmp 50)), []⟩,
          ⟨(some 52), .plain (.bin .add (.tmp 48) (.tmp 51)), []⟩,
          ⟨(some 53), .plain (.nilCheck (.tmp 43)), []⟩,
          ⟨(some 54), .plain (.fieldAddr 2 (.tmp 53)), []⟩,
          ⟨none, .plain (.store 1 (.tmp 54) (.tmp 52)), []⟩]))
      (.cut [0, 1, 55] (.seq (.region [⟨(some 56), .plain (.move (.tmp 1)), []⟩,
              ⟨(some 57), .plain (.bin .neq (.tmp 56) (.const (.int .u8 (58)))), []⟩,
              ⟨(some 55), .plain (.move (.tmp 57)), []⟩])
          (.cond (.tmp 55) (.skip)
          (.seq (.region [⟨(some 58), .plain (.move (.tmp 4)), []⟩,
                ⟨(some 59), .plain (.bin .eql (.tmp 58) (.const (.int .i64 (0)))), []⟩,
                ⟨(some 55), .plain (.move (.tmp 59)), []⟩])
            (.cond (.tmp 55) (.skip)
            (.region [⟨(some 60), .plain (.move (.tmp 0)), []⟩,
                ⟨(some 61), .plain (.nilCheck (.tmp 60)), []⟩,
                ⟨(some 62), .plain (.fieldAddr 2 (.tmp 61)), []⟩,
                ⟨(some 63), .plain (.load 1 false (.tmp 62)), []⟩,
                ⟨(some 64), .plain (.bin .gtr (.tmp 63) (.const (.int .i64 (20000)))), []⟩,
                ⟨(some 55), .plain (.move (.tmp 64)), []⟩])))))
        (.cond (.tmp 55) (.seq (.region [⟨(some 65), .plain (.move (.tmp 0)), []⟩,
              ⟨(some 66), .plain (.move (.tmp 1)), []⟩,
              ⟨(some 67), .call 27 [(.tmp 65), (.tmp 66)], []⟩])
          (.ret))
        (.region [⟨(some 10), .plain (.move (.tmp 0)), []⟩,
            ⟨(some 11), .plain (.move (.tmp 0)), []⟩,
            ⟨(some 12), .plain (.move (.tmp 0)), []⟩,
            ⟨(some 13), .plain (.nilCheck (.tmp 12)), []⟩,
            ⟨(some 14), .plain (.fieldAddr 2 (.tmp 13)), []⟩,
            ⟨(some 15), .plain (.load 1 false (.tmp 14)), []⟩,
            ⟨(some 16), .plain (.nilCheck (.tmp 10)), []⟩,
            ⟨(some 17), .plain (.fieldAddr 0 (.tmp 16)), []⟩,
            ⟨none, .plain (.store 1 (.tmp 17) (.const (.int .i64 (1)))), []⟩,
            ⟨(some 18), .plain (.nilCheck (.tmp 11)), []⟩,
            ⟨(some 19), .plain (.fieldAddr 3 (.tmp 18)), []⟩,
            ⟨none, .plain (.store 1 (.tmp 19) (.tmp 15)), []⟩]))))))
  (.region [⟨(some 68), .plain (.move (.tmp 0)), []⟩,
    ⟨(some 69), .plain (.move (.tmp 0)), []⟩,
    ⟨(some 70), .plain (.nilCheck (.tmp 69)), []⟩,
    ⟨(some 71), .plain (.fieldAddr 1 (.tmp 70)), []⟩,
    ⟨(some 72), .plain (.load 1 false (.tmp 71)), []⟩,
    ⟨(some 73), .plain (.move (.tmp 1)), []⟩,
    ⟨(some 74), .plain (.lit 1 1 [(.int .u8 (0))] [(0, (.tmp 73))]), []⟩,
    ⟨(some 75), .plain (.app false 1 1 (.tmp 72) (.tmp 74)), []⟩,
    ⟨(some 76), .plain (.nilCheck (.tmp 68)), []⟩,
    ⟨(some 77), .plain (.fieldAddr 1 (.tmp 76)), []⟩,
    ⟨none, .plain (.store 1 (.tmp 77) (.tmp 75)), []⟩]))⟩
theorem comp22 : compF Tryd.prog an22 Tryd.f22 = some ir22 := by kernel_rfl
theorem lps22 : loopsF Tryd.prog an22 Tryd.f22 = [] := by kernel_rfl
/-- internal/strconv.formatBase10 -/
def an25 : An := (.s .z (.s (.b (.l 2500 [0, 1, 4] (.s (.s .z (.s .z .z)) (.b (.s .z (.s .z (.s .z (.s .z (.s .z (.s .z (.s .z (.s .z (.s .z .z))))))))))))) (.s .z (.k [0, 4, 12] (.s .z (.s (.s .z (.s .z (.s .z (.s .z (.s .z .z))))) .z)) (.s (.s .z (.s (.s .z (.s .z (.s .z .z))) .z)) (.s .z (.s .z .z)))))))
def lb2500 : IC :=
  .seq (.seq (.region [⟨(some 19), .plain (.move (.tmp 4)), []⟩,
        ⟨(some 20), .plain (.bin .geq (.tmp 19) (.const (.int .i64 (8)))), []⟩])
    (.cond (.tmp 20) (.skip)
    (.exit 0)))
  (.block 1 (.seq (.region [⟨(some 21), .plain (.move (.tmp 1)), []⟩,
        ⟨(some 22), .plain (.bin .rem (.tmp 21) (.const (.int .u64 (100000000)))), []⟩,
        ⟨(some 23), .plain (.toInt .u32 (.tmp 22)), []⟩,
        ⟨(some 5), .plain (.move (.tmp 23)), []⟩])
    (.seq (.region [⟨(some 24), .plain (.move (.tmp 1)), []⟩,
        ⟨(some 25), .plain (.bin .quo (.tmp 24) (.const (.int .u64 (100000000)))), []⟩,
        ⟨(some 1), .plain (.move (.tmp 25)), []⟩])
    (.seq (.region [⟨(some 26), .plain (.move (.tmp 5)), []⟩,
        ⟨(some 27), .plain (.bin .quo (.tmp 26) (.const (.int .u32 (10000)))), []⟩,
        ⟨(some 28), .plain (.move (.tmp 5)), []⟩,
        ⟨(some 29), .plain (.bin .rem (.tmp 28) (.const (.int .u32 (10000)))), []⟩,
        ⟨(some 6), .plain (.move (.tmp 27)), []⟩,
        ⟨(some 7), .plain (.move (.tmp 29)), []⟩])
    (.seq (.region [⟨(some 30), .plain (.move (.tmp 7)), []⟩,
        ⟨(some 31), .plain (.bin .quo (.tmp 30) (.const (.int .u32 (100)))), []⟩,
        ⟨(some 32), .plain (.bin .mul (.tmp 31) (.const (.int .u32 (2)))), []⟩,
        ⟨(some 33), .plain (.move (.tmp 7)), []⟩,
        ⟨(some 34), .plain (.bin .rem (.tmp 33) (.const (.int .u32 (100)))), []⟩,
        ⟨(some 35), .plain (.bin .mul (.tmp 34) (.const (.int .u32 (2)))), []⟩,
        ⟨(some 8), .plain (.move (.tmp 32)), []⟩,
        ⟨(some 9), .plain (.move (.tmp 35)), []⟩])
    (.seq (.region [⟨(some 36), .plain (.move (.tmp 6)), []⟩,
        ⟨(some 37), .plain (.bin .quo (.tmp 36) (.const (.int .u32 (100)))), []⟩,
        ⟨(some 38), .plain (.bin .mul (.tmp 37) (.const (.int .u32 (2)))), []⟩,
        ⟨(some 39), .plain (.move (.tmp 6)), []⟩,
        ⟨(some 40), .plain (.bin .rem (.tmp 39) (.const (.int .u32 (100)))), []⟩,
        ⟨(some 41), .plain (.bin .mul (.tmp 40) (.const (.int .u32 (2)))), []⟩,
        ⟨(some 10), .plain (.move (.tmp 38)), []⟩,
        ⟨(some 11), .plain (.move (.tmp 41)), []⟩])
    (.seq (.draws [(⟨(some 42), .plain (.move (.tmp 0)), []⟩, [0], .pure),
        (⟨(some 43), .plain (.move (.tmp 4)), []⟩, [4], .pure),
        (⟨(some 44), .plain (.bin .sub (.tmp 43) (.const (.int .i64 (1)))), []⟩, [43], .pure),
        (⟨(some 45), .plain (.move (.tmp 0)), []⟩, [0], .pure),
        (⟨(some 46), .plain (.move (.tmp 4)), []⟩, [4], .pure),
        (⟨(some 47), .plain (.bin .sub (.tmp 46) (.const (.int .i64 (2)))), []⟩, [46], .pure),
        (⟨(some 48), .plain (.move (.tmp 9)), []⟩, [9], .pure),
        (⟨(some 49), .plain (.bin .add (.tmp 48) (.const (.int .u32 (1)))), []⟩, [48], .pure),
        (⟨(some 50), .plain (.byte (.const (.string ⟨#[48, 48, 48, 49, 48, 50, 48, 51, 48, 52, 48, 53, 48, 54, 48, 55, 48, 56, 48, 57, 49, 48, 49, 49, 49, 50, 49, 51, 49, 52, 49, 53, 49, 54, 49, 55, 49, 56, 49, 57, 50, 48, 50, 49, 50, 50, 50, 51, 50, 52, 50, 53, 50, 54, 50, 55, 50, 56, 50, 57, 51, 48, 51, 49, 51, 50, 51, 51, 51, 52, 51, 53, 51, 54, 51, 55, 51, 56, 51, 57, 52, 48, 52, 49, 52, 50, 52, 51, 52, 52, 52, 53, 52, 54, 52, 55, 52, 56, 52, 57, 53, 48, 53, 49, 53, 50, 53, 51, 53, 52, 53, 53, 53, 54, 53, 55, 53, 56, 53, 57, 54, 48, 54, 49, 54, 50, 54, 51, 54, 52, 54, 53, 54, 54, 54, 55, 54, 56, 54, 57, 55, 48, 55, 49, 55, 50, 55, 51, 55, 52, 55, 53, 55, 54, 55, 55, 55, 56, 55, 57, 56, 48, 56, 49, 56, 50, 56, 51, 56, 52, 56, 53, 56, 54, 56, 55, 56, 56, 56, 57, 57, 48, 57, 49, 57, 50, 57, 51, 57, 52, 57, 53, 57, 54, 57, 55, 57, 56, 57, 57]⟩)) (.tmp 49)), []⟩, [49], .pure),
        (⟨(some 51), .plain (.move (.tmp 9)), []⟩, [9], .pure),
        (⟨(some 52), .plain (.byte (.const (.string ⟨#[48, 48, 48, 49, 48, 50, 48, 51, 48, 52, 48, 53, 48, 54, 48, 55, 48, 56, 48, 57, 49, 48, 49, 49, 49, 50, 49, 51, 49, 52, 49, 53, 49, 54, 49, 55, 49, 56, 49, 57, 50, 48, 50, 49, 50, 50, 50, 51, 50, 52, 50, 53, 50, 54, 50, 55, 50, 56, 50, 57, 51, 48, 51, 49, 51, 50, 51, 51, 51, 52, 51, 53, 51, 54, 51, 55, 51, 56, 51, 57, 52, 48, 52, 49, 52, 50, 52, 51, 52, 52, 52, 53, 52, 54, 52, 55, 52, 56, 52, 57, 53, 48, 53, 49, 53, 50, 53, 51, 53, 52, 53, 53, 53, 54, 53, 55, 53, 56, 53, 57, 54, 48, 54, 49, 54, 50, 54, 51, 54, 52, 54, 53, 54, 54, 54, 55, 54, 56, 54, 57, 55, 48, 55, 49, 55, 50, 55, 51, 55, 52, 55, 53, 55, 54, 55, 55, 55, 56, 55, 57, 56, 48, 56, 49, 56, 50, 56, 51, 56, 52, 56, 53, 56, 54, 56, 55, 56, 56, 56, 57, 57, 48, 57, 49, 57, 50, 57, 51, 57, 52, 57, 53, 57, 54, 57, 55, 57, 56, 57, 57]⟩)) (.tmp 51)), []⟩, [51], .pure),
        (⟨(some 53), .plain (.idx 1 (.tmp 42) (.tmp 44)), []⟩, [42, 44], .pure),
        (⟨none, .plain (.store 1 (.tmp 53) (.tmp 50)), []⟩, [53, 50], .lone),
        (⟨(some 54), .plain (.idx 1 (.tmp 45) (.tmp 47)), []⟩, [45, 47], .pure),
        (⟨none, .plain (.store 1 (.tmp 54) (.tmp 52)), []⟩, [54, 52], .lone)])
    (.seq (.draws [(⟨(some 55), .plain (.move (.tmp 0)), []⟩, [0], .pure),
        (⟨(some 56), .plain (.move (.tmp 4)), []⟩, [4], .pure),
        (⟨(some 57), .plain (.bin .sub (.tmp 56) (.const (.int .i64 (3)))), []⟩, [56], .pure),
        (⟨(some 58), .plain (.move (.tmp 0)), []⟩, [0], .pure),
        (⟨(some 59), .plain (.move (.tmp 4)), []⟩, [4], .pure),
        (⟨(some 60), .plain (.bin .sub (.tmp 59) (.const (.int .i64 (4)))), []⟩, [59], .pure),
        (⟨(some 61), .plain (.move (.tmp 8)), []⟩, [8], .pure),
        (⟨(some 62), .plain (.bin .add (.tmp 61) (.const (.int .u32 (1)))), []⟩, [61], .pure),
        (⟨(some 63), .plain (.byte (.const (.string ⟨#[48, 48, 48, 49, 48, 50, 48, 51, 48, 52, 48, 53, 48, 54, 48, 55, 48, 56, 48, 57, 49, 48, 49, 49, 49, 50, 49, 51, 49, 52, 49, 53, 49, 54, 49, 55, 49, 56, 49, 57, 50, 48, 50, 49, 50, 50, 50, 51, 50, 52, 50, 53, 50, 54, 50, 55, 50, 56, 50, 57, 51, 48, 51, 49, 51, 50, 51, 51, 51, 52, 51, 53, 51, 54, 51, 55, 51, 56, 51, 57, 52, 48, 52, 49, 52, 50, 52, 51, 52, 52, 52, 53, 52, 54, 52, 55, 52, 56, 52, 57, 53, 48, 53, 49, 53, 50, 53, 51, 53, 52, 53, 53, 53, 54, 53, 55, 53, 56, 53, 57, 54, 48, 54, 49, 54, 50, 54, 51, 54, 52, 54, 53, 54, 54, 54, 55, 54, 56, 54, 57, 55, 48, 55, 49, 55, 50, 55, 51, 55, 52, 55, 53, 55, 54, 55, 55, 55, 56, 55, 57, 56, 48, 56, 49, 56, 50, 56, 51, 56, 52, 56, 53, 56, 54, 56, 55, 56, 56, 56, 57, 57, 48, 57, 49, 57, 50, 57, 51, 57, 52, 57, 53, 57, 54, 57, 55, 57, 56, 57, 57]⟩)) (.tmp 62)), []⟩, [62], .pure),
        (⟨(some 64), .plain (.move (.tmp 8)), []⟩, [8], .pure),
        (⟨(some 65), .plain (.byte (.const (.string ⟨#[48, 48, 48, 49, 48, 50, 48, 51, 48, 52, 48, 53, 48, 54, 48, 55, 48, 56, 48, 57, 49, 48, 49, 49, 49, 50, 49, 51, 49, 52, 49, 53, 49, 54, 49, 55, 49, 56, 49, 57, 50, 48, 50, 49, 50, 50, 50, 51, 50, 52, 50, 53, 50, 54, 50, 55, 50, 56, 50, 57, 51, 48, 51, 49, 51, 50, 51, 51, 51, 52, 51, 53, 51, 54, 51, 55, 51, 56, 51, 57, 52, 48, 52, 49, 52, 50, 52, 51, 52, 52, 52, 53, 52, 54, 52, 55, 52, 56, 52, 57, 53, 48, 53, 49, 53, 50, 53, 51, 53, 52, 53, 53, 53, 54, 53, 55, 53, 56, 53, 57, 54, 48, 54, 49, 54, 50, 54, 51, 54, 52, 54, 53, 54, 54, 54, 55, 54, 56, 54, 57, 55, 48, 55, 49, 55, 50, 55, 51, 55, 52, 55, 53, 55, 54, 55, 55, 55, 56, 55, 57, 56, 48, 56, 49, 56, 50, 56, 51, 56, 52, 56, 53, 56, 54, 56, 55, 56, 56, 56, 57, 57, 48, 57, 49, 57, 50, 57, 51, 57, 52, 57, 53, 57, 54, 57, 55, 57, 56, 57, 57]⟩)) (.tmp 64)), []⟩, [64], .pure),
        (⟨(some 66), .plain (.idx 1 (.tmp 55) (.tmp 57)), []⟩, [55, 57], .pure),
        (⟨none, .plain (.store 1 (.tmp 66) (.tmp 63)), []⟩, [66, 63], .lone),
        (⟨(some 67), .plain (.idx 1 (.tmp 58) (.tmp 60)), []⟩, [58, 60], .pure),
        (⟨none, .plain (.store 1 (.tmp 67) (.tmp 65)), []⟩, [67, 65], .lone)])
    (.seq (.draws [(⟨(some 68), .plain (.move (.tmp 0)), []⟩, [0], .pure),
        (⟨(some 69), .plain (.move (.tmp 4)), []⟩, [4], .pure),
        (⟨(some 70), .plain (.bin .sub (.tmp 69) (.const (.int .i64 (5)))), []⟩, [69], .pure),
        (⟨(some 71), .plain (.move (.tmp 0)), []⟩, [0], .pure),
        (⟨(some 72), .plain (.move (.tmp 4)), []⟩, [4], .pure),
        (⟨(some 73), .plain (.bin .sub (.tmp 72) (.const (.int .i64 (6)))), []⟩, [72], .pure),
        (⟨(some 74), .plain (.move (.tmp 11)), []⟩, [11], .pure),
        (⟨(some 75), .plain (.bin .add (.tmp 74) (.const (.int .u32 (1)))), []⟩, [74], .pure),
        (⟨(some 76), .plain (.byte (.const (.string ⟨#[48, 48, 48, 49, 48, 50, 48, 51, 48, 52, 48, 53, 48, 54, 48, 55, 48, 56, 48, 57, 49, 48, 49, 49, 49, 50, 49, 51, 49, 52, 49, 53, 49, 54, 49, 55, 49, 56, 49, 57, 50, 48, 50, 49, 50, 50, 50, 51, 50, 52, 50, 53, 50, 54, 50, 55, 50, 56, 50, 57, 51, 48, 51, 49, 51, 50, 51, 51, 51, 52, 51, 53, 51, 54, 51, 55, 51, 56, 51, 57, 52, 48, 52, 49, 52, 50, 52, 51, 52, 52, 52, 53, 52, 54, 52, 55, 52, 56, 52, 57, 53, 48, 53, 49, 53, 50, 53, 51, 53, 52, 53, 53, 53, 54, 53, 55, 53, 56, 53, 57, 54, 48, 54, 49, 54, 50, 54, 51, 54, 52, 54, 53, 54, 54, 54, 55, 54, 56, 54, 57, 55, 48, 55, 49, 55, 50, 55, 51, 55, 52, 55, 53, 55, 54, 55, 55, 55, 56, 55, 57, 56, 48, 56, 49, 56, 50, 56, 51, 56, 52, 56, 53, 56, 54, 56, 55, 56, 56, 56, 57, 57, 48, 57, 49, 57, 50, 57, 51, 57, 52, 57, 53, 57, 54, 57, 55, 57, 56, 57, 57]⟩)) (.tmp 75)), []⟩, [75], .pure),
        (⟨(some 77), .plain (.move (.tmp 11)), []⟩, [11], .pure),
        (⟨(some 78), .plain (.byte (.const (.string ⟨#[48, 48, 48, 49, 48, 50, 48, 51, 48, 52, 48, 53, 48, 54, 48, 55, 48, 56, 48, 57, 49, 48, 49, 49, 49, 50, 49, 51, 49, 52, 49, 53, 49, 54, 49, 55, 49, 56, 49, 57, 50, 48, 50, 49, 50, 50, 50, 51, 50, 52, 50, 53, 50, 54, 50, 55, 50, 56, 50, 57, 51, 48, 51, 49, 51, 50, 51, 51, 51, 52, 51, 53, 51, 54, 51, 55, 51, 56, 51, 57, 52, 48, 52, 49, 52, 50, 52, 51, 52, 52, 52, 53, 52, 54, 52, 55, 52, 56, 52, 57, 53, 48, 53, 49, 53, 50, 53, 51, 53, 52, 53, 53, 53, 54, 53, 55, 53, 56, 53, 57, 54, 48, 54, 49, 54, 50, 54, 51, 54, 52, 54, 53, 54, 54, 54, 55, 54, 56, 54, 57, 55, 48, 55, 49, 55, 50, 55, 51, 55, 52, 55, 53, 55, 54, 55, 55, 55, 56, 55, 57, 56, 48, 56, 49, 56, 50, 56, 51, 56, 52, 56, 53, 56, 54, 56, 55, 56, 56, 56, 57, 57, 48, 57, 49, 57, 50, 57, 51, 57, 52, 57, 53, 57, 54, 57, 55, 57, 56, 57, 57]⟩)) (.tmp 77)), []⟩, [77], .pure),
        (⟨(some 79), .plain (.idx 1 (.tmp 68) (.tmp 70)), []⟩, [68, 70], .pure),
        (⟨none, .plain (.store 1 (.tmp 79) (.tmp 76)), []⟩, [79, 76], .lone),
        (⟨(some 80), .plain (.idx 1 (.tmp 71) (.tmp 73)), []⟩, [71, 73], .pure),
        (⟨none, .plain (.store 1 (.tmp 80) (.tmp 78)), []⟩, [80, 78], .lone)])
    (.seq (.draws [(⟨(some 81), .plain (.move (.tmp 0)), []⟩, [0], .pure),
        (⟨(some 82), .plain (.move (.tmp 4)), []⟩, [4], .pure),
        (⟨(some 83), .plain (.bin .sub (.tmp 82) (.const (.int .i64 (7)))), []⟩, [82], .pure),
        (⟨(some 84), .plain (.move (.tmp 0)), []⟩, [0], .pure),
        (⟨(some 85), .plain (.move (.tmp 4)), []⟩, [4], .pure),
        (⟨(some 86), .plain (.bin .sub (.tmp 85) (.const (.int .i64 (8)))), []⟩, [85], .pure),
        (⟨(some 87), .plain (.move (.tmp 10)), []⟩, [10], .pure),
        (⟨(some 88), .plain (.bin .add (.tmp 87) (.const (.int .u32 (1)))), []⟩, [87], .pure),
        (⟨(some 89), .plain (.byte (.const (.string ⟨#[48, 48, 48, 49, 48, 50, 48, 51, 48, 52, 48, 53, 48, 54, 48, 55, 48, 56, 48, 57, 49, 48, 49, 49, 49, 50, 49, 51, 49, 52, 49, 53, 49, 54, 49, 55, 49, 56, 49, 57, 50, 48, 50, 49, 50, 50, 50, 51, 50, 52, 50, 53, 50, 54, 50, 55, 50, 56, 50, 57, 51, 48, 51, 49, 51, 50, 51, 51, 51, 52, 51, 53, 51, 54, 51, 55, 51, 56, 51, 57, 52, 48, 52, 49, 52, 50, 52, 51, 52, 52, 52, 53, 52, 54, 52, 55, 52, 56, 52, 57, 53, 48, 53, 49, 53, 50, 53, 51, 53, 52, 53, 53, 53, 54, 53, 55, 53, 56, 53, 57, 54, 48, 54, 49, 54, 50, 54, 51, 54, 52, 54, 53, 54, 54, 54, 55, 54, 56, 54, 57, 55, 48, 55, 49, 55, 50, 55, 51, 55, 52, 55, 53, 55, 54, 55, 55, 55, 56, 55, 57, 56, 48, 56, 49, 56, 50, 56, 51, 56, 52, 56, 53, 56, 54, 56, 55, 56, 56, 56, 57, 57, 48, 57, 49, 57, 50, 57, 51, 57, 52, 57, 53, 57, 54, 57, 55, 57, 56, 57, 57]⟩)) (.tmp 88)), []⟩, [88], .pure),
        (⟨(some 90), .plain (.move (.tmp 10)), []⟩, [10], .pure),
        (⟨(some 91), .plain (.byte (.const (.string ⟨#[48, 48, 48, 49, 48, 50, 48, 51, 48, 52, 48, 53, 48, 54, 48, 55, 48, 56, 48, 57, 49, 48, 49, 49, 49, 50, 49, 51, 49, 52, 49, 53, 49, 54, 49, 55, 49, 56, 49, 57, 50, 48, 50, 49, 50, 50, 50, 51, 50, 52, 50, 53, 50, 54, 50, 55, 50, 56, 50, 57, 51, 48, 51, 49, 51, 50, 51, 51, 51, 52, 51, 53, 51, 54, 51, 55, 51, 56, 51, 57, 52, 48, 52, 49, 52, 50, 52, 51, 52, 52, 52, 53, 52, 54, 52, 55, 52, 56, 52, 57, 53, 48, 53, 49, 53, 50, 53, 51, 53, 52, 53, 53, 53, 54, 53, 55, 53, 56, 53, 57, 54, 48, 54, 49, 54, 50, 54, 51, 54, 52, 54, 53, 54, 54, 54, 55, 54, 56, 54, 57, 55, 48, 55, 49, 55, 50, 55, 51, 55, 52, 55, 53, 55, 54, 55, 55, 55, 56, 55, 57, 56, 48, 56, 49, 56, 50, 56, 51, 56, 52, 56, 53, 56, 54, 56, 55, 56, 56, 56, 57, 57, 48, 57, 49, 57, 50, 57, 51, 57, 52, 57, 53, 57, 54, 57, 55, 57, 56, 57, 57]⟩)) (.tmp 90)), []⟩, [90], .pure),
        (⟨(some 92), .plain (.idx 1 (.tmp 81) (.tmp 83)), []⟩, [81, 83], .pure),
        (⟨none, .plain (.store 1 (.tmp 92) (.tmp 89)), []⟩, [92, 89], .lone),
        (⟨(some 93), .plain (.idx 1 (.tmp 84) (.tmp 86)), []⟩, [84, 86], .pure),
        (⟨none, .plain (.store 1 (.tmp 93) (.tmp 91)), []⟩, [93, 91], .lone)])
    (.region [⟨(some 94), .plain (.move (.tmp 4)), []⟩,
      ⟨(some 95), .plain (.bin .sub (.tmp 94) (.const (.int .i64 (8)))), []⟩,
      ⟨(some 4), .plain (.move (.tmp 95)), []⟩])))))))))))
def ir25 : IFun := ⟨167, [],
  .seq (.region [⟨(some 17), .plain (.move (.tmp 0)), []⟩,
      ⟨(some 18), .plain (.len false (.tmp 17)), []⟩,
      ⟨(some 4), .plain (.move (.tmp 18)), []⟩])
  (.seq (.block 0 (.loop 2500 [0, 1, 4]))
  (.seq (.region [⟨(some 96), .plain (.move (.tmp 1)), []⟩,
      ⟨(some 97), .plain (.toInt .u32 (.tmp 96)), []⟩,
      ⟨(some 12), .plain (.move (.tmp 97)), []⟩])
  (.cut [0, 4, 12] (.seq (.region [⟨(some 98), .plain (.move (.tmp 4)), []⟩,
        ⟨(some 99), .plain (.bin .geq (.tmp 98) (.const (.int .i64 (4)))), []⟩])
    (.cond (.tmp 99) (.seq (.region [⟨(some 100), .plain (.move (.tmp 12)), []⟩,
          ⟨(some 101), .plain (.bin .rem (.tmp 100) (.const (.int .u32 (10000)))), []⟩,
          ⟨(some 13), .plain (.move (.tmp 101)), []⟩])
      (.seq (.region [⟨(some 102), .plain (.move (.tmp 12)), []⟩,
          ⟨(some 103), .plain (.bin .quo (.tmp 102) (.const (.int .u32 (10000)))), []⟩,
          ⟨(some 12), .plain (.move (.tmp 103)), []⟩])
      (.seq (.region [⟨(some 104), .plain (.move (.tmp 13)), []⟩,
          ⟨(some 105), .plain (.bin .quo (.tmp 104) (.const (.int .u32 (100)))), []⟩,
          ⟨(some 106), .plain (.bin .mul (.tmp 105) (.const (.int .u32 (2)))), []⟩,
          ⟨(some 107), .plain (.move (.tmp 13)), []⟩,
          ⟨(some 108), .plain (.bin .rem (.tmp 107) (.const (.int .u32 (100)))), []⟩,
          ⟨(some 109), .plain (.bin .mul (.tmp 108) (.const (.int .u32 (2)))), []⟩,
          ⟨(some 14), .plain (.move (.tmp 106)), []⟩,
          ⟨(some 15), .plain (.move (.tmp 109)), []⟩])
      (.seq (.draws [(⟨(some 110), .plain (.move (.tmp 0)), []⟩, [0], .pure),
          (⟨(some 111), .plain (.move (.tmp 4)), []⟩, [4], .pure),
          (⟨(some 112), .plain (.bin .sub (.tmp 111) (.const (.int .i64 (1)))), []⟩, [111], .pure),
          (⟨(some 113), .plain (.move (.tmp 0)), []⟩, [0], .pure),
          (⟨(some 114), .plain (.move (.tmp 4)), []⟩, [4], .pure),
          (⟨(some 115), .plain (.bin .sub (.tmp 114) (.const (.int .i64 (2)))), []⟩, [114], .pure),
          (⟨(some 116), .plain (.move (.tmp 15)), []⟩, [15], .pure),
          (⟨(some 117), .plain (.bin .add (.tmp 116) (.const (.int .u32 (1)))), []⟩, [116], .pure),
          (⟨(some 118), .plain (.byte (.const (.string ⟨#[48, 48, 48, 49, 48, 50, 48, 51, 48, 52, 48, 53, 48, 54, 48, 55, 48, 56, 48, 57, 49, 48, 49, 49, 49, 50, 49, 51, 49, 52, 49, 53, 49, 54, 49, 55, 49, 56, 49, 57, 50, 48, 50, 49, 50, 50, 50, 51, 50, 52, 50, 53, 50, 54, 50, 55, 50, 56, 50, 57, 51, 48, 51, 49, 51, 50, 51, 51, 51, 52, 51, 53, 51, 54, 51, 55, 51, 56, 51, 57, 52, 48, 52, 49, 52, 50, 52, 51, 52, 52, 52, 53, 52, 54, 52, 55, 52, 56, 52, 57, 53, 48, 53, 49, 53, 50, 53, 51, 53, 52, 53, 53, 53, 54, 53, 55, 53, 56, 53, 57, 54, 48, 54, 49, 54, 50, 54, 51, 54, 52, 54, 53, 54, 54, 54, 55, 54, 56, 54, 57, 55, 48, 55, 49, 55, 50, 55, 51, 55, 52, 55, 53, 55, 54, 55, 55, 55, 56, 55, 57, 56, 48, 56, 49, 56, 50, 56, 51, 56, 52, 56, 53, 56, 54, 56, 55, 56, 56, 56, 57, 57, 48, 57, 49, 57, 50, 57, 51, 57, 52, 57, 53, 57, 54, 57, 55, 57, 56, 57, 57]⟩)) (.tmp 117)), []⟩, [117], .pure),
          (⟨(some 119), .plain (.move (.tmp 15)), []⟩, [15], .pure),
          (⟨(some 120), .plain (.byte (.const (.string ⟨#[48, 48, 48, 49, 48, 50, 48, 51, 48, 52, 48, 53, 48, 54, 48, 55, 48, 56, 48, 57, 49, 48, 49, 49, 49, 50, 49, 51, 49, 52, 49, 53, 49, 54, 49, 55, 49, 56, 49, 57, 50, 48, 50, 49, 50, 50, 50, 51, 50, 52, 50, 53, 50, 54, 50, 55, 50, 56, 50, 57, 51, 48, 51, 49, 51, 50, 51, 51, 51, 52, 51, 53, 51, 54, 51, 55, 51, 56, 51, 57, 52, 48, 52, 49, 52, 50, 52, 51, 52, 52, 52, 53, 52, 54, 52, 55, 52, 56, 52, 57, 53, 48, 53, 49, 53, 50, 53, 51, 53, 52, 53, 53, 53, 54, 53, 55, 53, 56, 53, 57, 54, 48, 54, 49, 54, 50, 54, 51, 54, 52, 54, 53, 54, 54, 54, 55, 54, 56, 54, 57, 55, 48, 55, 49, 55, 50, 55, 51, 55, 52, 55, 53, 55, 54, 55, 55, 55, 56, 55, 57, 56, 48, 56, 49, 56, 50, 56, 51, 56, 52, 56, 53, 56, 54, 56, 55, 56, 56, 56, 57, 57, 48, 57, 49, 57, 50, 57, 51, 57, 52, 57, 53, 57, 54, 57, 55, 57, 56, 57, 57]⟩)) (.tmp 119)), []⟩, [119], .pure),
          (⟨(some 121), .plain (.idx 1 (.tmp 110) (.tmp 112)), []⟩, [110, 112], .pure),
          (⟨none, .plain (.store 1 (.tmp 121) (.tmp 118)), []⟩, [121, 118], .lone),
          (⟨(some 122), .plain (.idx 1 (.tmp 113) (.tmp 115)), []⟩, [113, 115], .pure),
          (⟨none, .plain (.store 1 (.tmp 122) (.tmp 120)), []⟩, [122, 120], .lone)])
      (.seq (.draws [(⟨(some 123), .plain (.move (.tmp 0)), []⟩, [0], .pure),
          (⟨(some 124), .plain (.move (.tmp 4)), []⟩, [4], .pure),
          (⟨(some 125), .plain (.bin .sub (.tmp 124) (.const (.int .i64 (3)))), []⟩, [124], .pure),
          (⟨(some 126), .plain (.move (.tmp 0)), []⟩, [0], .pure),
          (⟨(some 127), .plain (.move (.tmp 4)), []⟩, [4], .pure),
          (⟨(some 128), .plain (.bin .sub (.tmp 127) (.const (.int .i64 (4)))), []⟩, [127], .pure),
          (⟨(some 129), .plain (.move (.tmp 14)), []⟩, [14], .pure),
          (⟨(some 130), .plain (.bin .add (.tmp 129) (.const (.int .u32 (1)))), []⟩, [129], .pure),
          (⟨(some 131), .plain (.byte (.const (.string ⟨#[48, 48, 48, 49, 48, 50, 48, 51, 48, 52, 48, 53, 48, 54, 48, 55, 48, 56, 48, 57, 49, 48, 49, 49, 49, 50, 49, 51, 49, 52, 49, 53, 49, 54, 49, 55, 49, 56, 49, 57, 50, 48, 50, 49, 50, 50, 50, 51, 50, 52, 50, 53, 50, 54, 50, 55, 50, 56, 50, 57, 51, 48, 51, 49, 51, 50, 51, 51, 51, 52, 51, 53, 51, 54, 51, 55, 51, 56, 51, 57, 52, 48, 52, 49, 52, 50, 52, 51, 52, 52, 52, 53, 52, 54, 52, 55, 52, 56, 52, 57, 53, 48, 53, 49, 53, 50, 53, 51, 53, 52, 53, 53, 53, 54, 53, 55, 53, 56, 53, 57, 54, 48, 54, 49, 54, 50, 54, 51, 54, 52, 54, 53, 54, 54, 54, 55, 54, 56, 54, 57, 55, 48, 55, 49, 55, 50, 55, 51, 55, 52, 55, 53, 55, 54, 55, 55, 55, 56, 55, 57, 56, 48, 56, 49, 56, 50, 56, 51, 56, 52, 56, 53, 56, 54, 56, 55, 56, 56, 56, 57, 57, 48, 57, 49, 57, 50, 57, 51, 57, 52, 57, 53, 57, 54, 57, 55, 57, 56, 57, 57]⟩)) (.tmp 130)), []⟩, [130], .pure),
          (⟨(some 132), .plain (.move (.tmp 14)), []⟩, [14], .pure),
          (⟨(some 133), .plain (.byte (.const (.string ⟨#[48, 48, 48, 49, 48, 50, 48, 51, 48, 52, 48, 53, 48, 54, 48, 55, 48, 56, 48, 57, 49, 48, 49, 49, 49, 50, 49, 51, 49, 52, 49, 53, 49, 54, 49, 55, 49, 56, 49, 57, 50, 48, 50, 49, 50, 50, 50, 51, 50, 52, 50, 53, 50, 54, 50, 55, 50, 56, 50, 57, 51, 48, 51, 49, 51, 50, 51, 51, 51, 52, 51, 53, 51, 54, 51, 55, 51, 56, 51, 57, 52, 48, 52, 49, 52, 50, 52, 51, 52, 52, 52, 53, 52, 54, 52, 55, 52, 56, 52, 57, 53, 48, 53, 49, 53, 50, 53, 51, 53, 52, 53, 53, 53, 54, 53, 55, 53, 56, 53, 57, 54, 48, 54, 49, 54, 50, 54, 51, 54, 52, 54, 53, 54, 54, 54, 55, 54, 56, 54, 57, 55, 48, 55, 49, 55, 50, 55, 51, 55, 52, 55, 53, 55, 54, 55, 55, 55, 56, 55, 57, 56, 48, 56, 49, 56, 50, 56, 51, 56, 52, 56, 53, 56, 54, 56, 55, 56, 56, 56, 57, 57, 48, 57, 49, 57, 50, 57, 51, 57, 52, 57, 53, 57, 54, 57, 55, 57, 56, 57, 57]⟩)) (.tmp 132)), []⟩, [132], .pure),
          (⟨(some 134), .plain (.idx 1 (.tmp 123) (.tmp 125)), []⟩, [123, 125], .pure),
          (⟨none, .plain (.store 1 (.tmp 134) (.tmp 131)), []⟩, [134, 131], .lone),
          (⟨(some 135), .plain (.idx 1 (.tmp 126) (.tmp 128)), []⟩, [126, 128], .pure),
          (⟨none, .plain (.store 1 (.tmp 135) (.tmp 133)), []⟩, [135, 133], .lone)])
      (.region [⟨(some 136), .plain (.move (.tmp 4)), []⟩,
        ⟨(some 137), .plain (.bin .sub (.tmp 136) (.const (.int .i64 (4)))), []⟩,
        ⟨(some 4), .plain (.move (.tmp 137)), []⟩]))))))
    (.skip)))
  (.seq (.seq (.region [⟨(some 138), .plain (.move (.tmp 4)), []⟩,
        ⟨(some 139), .plain (.bin .geq (.tmp 138) (.const (.int .i64 (2)))), []⟩])
    (.cond (.tmp 139) (.seq (.region [⟨(some 140), .plain (.move (.tmp 12)), []⟩,
          ⟨(some 141), .plain (.bin .rem (.tmp 140) (.const (.int .u32 (100)))), []⟩,
          ⟨(some 142), .plain (.bin .mul (.tmp 141) (.const (.int .u32 (2)))), []⟩,
          ⟨(some 16), .plain (.move (.tmp 142)), []⟩])
      (.seq (.region [⟨(some 143), .plain (.move (.tmp 12)), []⟩,
          ⟨(some 144), .plain (.bin .quo (.tmp 143) (.const (.int .u32 (100)))), []⟩,
          ⟨(some 12), .plain (.move (.tmp 144)), []⟩])
      (.seq (.draws [(⟨(some 145), .plain (.move (.tmp 0)), []⟩, [0], .pure),
          (⟨(some 146), .plain (.move (.tmp 4)), []⟩, [4], .pure),
          (⟨(some 147), .plain (.bin .sub (.tmp 146) (.const (.int .i64 (1)))), []⟩, [146], .pure),
          (⟨(some 148), .plain (.move (.tmp 0)), []⟩, [0], .pure),
          (⟨(some 149), .plain (.move (.tmp 4)), []⟩, [4], .pure),
          (⟨(some 150), .plain (.bin .sub (.tmp 149) (.const (.int .i64 (2)))), []⟩, [149], .pure),
          (⟨(some 151), .plain (.move (.tmp 16)), []⟩, [16], .pure),
          (⟨(some 152), .plain (.bin .add (.tmp 151) (.const (.int .u32 (1)))), []⟩, [151], .pure),
          (⟨(some 153), .plain (.byte (.const (.string ⟨#[48, 48, 48, 49, 48, 50, 48, 51, 48, 52, 48, 53, 48, 54, 48, 55, 48, 56, 48, 57, 49, 48, 49, 49, 49, 50, 49, 51, 49, 52, 49, 53, 49, 54, 49, 55, 49, 56, 49, 57, 50, 48, 50, 49, 50, 50, 50, 51, 50, 52, 50, 53, 50, 54, 50, 55, 50, 56, 50, 57, 51, 48, 51, 49, 51, 50, 51, 51, 51, 52, 51, 53, 51, 54, 51, 55, 51, 56, 51, 57, 52, 48, 52, 49, 52, 50, 52, 51, 52, 52, 52, 53, 52, 54, 52, 55, 52, 56, 52, 57, 53, 48, 53, 49, 53, 50, 53, 51, 53, 52, 53, 53, 53, 54, 53, 55, 53, 56, 53, 57, 54, 48, 54, 49, 54, 50, 54, 51, 54, 52, 54, 53, 54, 54, 54, 55, 54, 56, 54, 57, 55, 48, 55, 49, 55, 50, 55, 51, 55, 52, 55, 53, 55, 54, 55, 55, 55, 56, 55, 57, 56, 48, 56, 49, 56, 50, 56, 51, 56, 52, 56, 53, 56, 54, 56, 55, 56, 56, 56, 57, 57, 48, 57, 49, 57, 50, 57, 51, 57, 52, 57, 53, 57, 54, 57, 55, 57, 56, 57, 57]⟩)) (.tmp 152)), []⟩, [152], .pure),
          (⟨(some 154), .plain (.move (.tmp 16)), []⟩, [16], .pure),
          (⟨(some 155), .plain (.byte (.const (.string ⟨#[48, 48, 48, 49, 48, 50, 48, 51, 48, 52, 48, 53, 48, 54, 48, 55, 48, 56, 48, 57, 49, 48, 49, 49, 49, 50, 49, 51, 49, 52, 49, 53, 49, 54, 49, 55, 49, 56, 49, 57, 50, 48, 50, 49, 50, 50, 50, 51, 50, 52, 50, 53, 50, 54, 50, 55, 50, 56, 50, 57, 51, 48, 51, 49, 51, 50, 51, 51, 51, 52, 51, 53, 51, 54, 51, 55, 51, 56, 51, 57, 52, 48, 52, 49, 52, 50, 52, 51, 52, 52, 52, 53, 52, 54, 52, 55, 52, 56, 52, 57, 53, 48, 53, 49, 53, 50, 53, 51, 53, 52, 53, 53, 53, 54, 53, 55, 53, 56, 53, 57, 54, 48, 54, 49, 54, 50, 54, 51, 54, 52, 54, 53, 54, 54, 54, 55, 54, 56, 54, 57, 55, 48, 55, 49, 55, 50, 55, 51, 55, 52, 55, 53, 55, 54, 55, 55, 55, 56, 55, 57, 56, 48, 56, 49, 56, 50, 56, 51, 56, 52, 56, 53, 56, 54, 56, 55, 56, 56, 56, 57, 57, 48, 57, 49, 57, 50, 57, 51, 57, 52, 57, 53, 57, 54, 57, 55, 57, 56, 57, 57]⟩)) (.tmp 154)), []⟩, [154], .pure),
          (⟨(some 156), .plain (.idx 1 (.tmp 145) (.tmp 147)), []⟩, [145, 147], .pure),
          (⟨none, .plain (.store 1 (.tmp 156) (.tmp 153)), []⟩, [156, 153], .lone),
          (⟨(some 157), .plain (.idx 1 (.tmp 148) (.tmp 150)), []⟩, [148, 150], .pure),
          (⟨none, .plain (.store 1 (.tmp 157) (.tmp 155)), []⟩, [157, 155], .lone)])
      (.region [⟨(some 158), .plain (.move (.tmp 4)), []⟩,
        ⟨(some 159), .plain (.bin .sub (.tmp 158) (.const (.int .i64 (2)))), []⟩,
        ⟨(some 4), .plain (.move (.tmp 159)), []⟩]))))
    (.skip)))
  (.seq (.region [⟨(some 160), .plain (.move (.tmp 4)), []⟩,
      ⟨(some 161), .plain (.bin .gtr (.tmp 160) (.const (.int .i64 (0)))), []⟩])
  (.cond (.tmp 161) (.region [⟨(some 162), .plain (.move (.tmp 0)), []⟩,
      ⟨(some 163), .plain (.move (.tmp 12)), []⟩,
      ⟨(some 164), .plain (.bin .add (.const (.int .u32 (48))) (.tmp 163)), []⟩,
      ⟨(some 165), .plain (.toInt .u8 (.tmp 164)), []⟩,
      ⟨(some 166), .plain (.idx 1 (.tmp 162) (.const (.int .i64 (0)))), []⟩,
      ⟨none, .plain (.store 1 (.tmp 166) (.tmp 165)), []⟩])
  (.skip)))))))⟩
theorem comp25 : compF Tryd.prog an25 Tryd.f25 = some ir25 := by kernel_rfl
theorem lps25 : loopsF Tryd.prog an25 Tryd.f25 = [(2500, [0, 1, 4], some lb2500)] := by kernel_rfl
/-- internal/strconv.formatBits -/
def an26 : An := (.s .z (.k [0, 1, 2, 3, 4, 10, 11] (.s .z (.s .z .z)) (.s .z (.s .z (.k [0, 1, 2, 3, 4, 10, 11, 12, 13] (.s .z (.s .z .z)) (.k [0, 3, 4, 10, 11, 12, 13] (.s .z (.s (.s .z (.s .z (.s .z (.s (.b (.l 2600 [0, 1, 3, 4, 10, 11, 12, 13, 14, 15, 16] (.s (.s .z (.s .z .z)) (.b (.s .z (.s .z .z)))))) (.s .z .z))))) (.s .z (.s (.b (.l 2601 [0, 1, 3, 4, 10, 11, 12, 13, 17] (.s (.s .z (.s .z .z)) (.b (.s .z (.s .z (.s .z .z))))))) (.s .z .z))))) (.k [0, 4, 10, 11, 12, 13] (.s .z (.s (.s .z .z) .z)) (.s (.s .z (.s (.s .z .z) .z)) (.s .z .z)))))))))
def lb2600 : IC :=
  .seq (.seq (.region [⟨(some 44), .plain (.move (.tmp 1)), []⟩,
        ⟨(some 45), .plain (.move (.tmp 15)), []⟩,
        ⟨(some 46), .plain (.bin .geq (.tmp 44) (.tmp 45)), []⟩])
    (.cond (.tmp 46) (.skip)
    (.exit 0)))
  (.block 1 (.seq (.region [⟨(some 47), .plain (.move (.tmp 13)), []⟩,
        ⟨(some 48), .plain (.bin .sub (.tmp 47) (.const (.int .i64 (1)))), []⟩,
        ⟨(some 13), .plain (.move (.tmp 48)), []⟩])
    (.seq (.region [⟨(some 49), .plain (.move (.tmp 13)), []⟩,
        ⟨(some 50), .plain (.move (.tmp 1)), []⟩,
        ⟨(some 51), .plain (.move (.tmp 16)), []⟩,
        ⟨(some 52), .plain (.bin .and (.tmp 50) (.tmp 51)), []⟩,
        ⟨(some 53), .plain (.byte (.const (.string ⟨#[48, 49, 50, 51, 52, 53, 54, 55, 56, 57, 97, 98, 99, 100, 101, 102, 103, 104, 105, 106, 107, 108, 109, 110, 111, 112, 113, 114, 115, 116, 117, 118, 119, 120, 121, 122]⟩)) (.tmp 52)), []⟩,
        ⟨(some 54), .plain (.idxArr 65 1 (.tmp 12) (.tmp 49)), []⟩,
        ⟨none, .plain (.store 1 (.tmp 54) (.tmp 53)), []⟩])
    (.region [⟨(some 55), .plain (.move (.tmp 1)), []⟩,
      ⟨(some 56), .plain (.move (.tmp 14)), []⟩,
      ⟨(some 57), .plain (.bin .shr (.tmp 55) (.tmp 56)), []⟩,
      ⟨(some 1), .plain (.move (.tmp 57)), []⟩]))))
def lb2601 : IC :=
  .seq (.seq (.region [⟨(some 66), .plain (.move (.tmp 1)), []⟩,
        ⟨(some 67), .plain (.move (.tmp 17)), []⟩,
        ⟨(some 68), .plain (.bin .geq (.tmp 66) (.tmp 67)), []⟩])
    (.cond (.tmp 68) (.skip)
    (.exit 2)))
  (.block 3 (.seq (.region [⟨(some 69), .plain (.move (.tmp 13)), []⟩,
        ⟨(some 70), .plain (.bin .sub (.tmp 69) (.const (.int .i64 (1)))), []⟩,
        ⟨(some 13), .plain (.move (.tmp 70)), []⟩])
    (.seq (.region [⟨(some 71), .plain (.move (.tmp 1)), []⟩,
        ⟨(some 72), .plain (.move (.tmp 17)), []⟩,
        ⟨(some 73), .plain (.bin .quo (.tmp 71) (.tmp 72)), []⟩,
        ⟨(some 18), .plain (.move (.tmp 73)), []⟩])
    (.seq (.region [⟨(some 74), .plain (.move (.tmp 13)), []⟩,
        ⟨(some 75), .plain (.move (.tmp 1)), []⟩,
        ⟨(some 76), .plain (.move (.tmp 18)), []⟩,
        ⟨(some 77), .plain (.move (.tmp 17)), []⟩,
        ⟨(some 78), .plain (.bin .mul (.tmp 76) (.tmp 77)), []⟩,
        ⟨(some 79), .plain (.bin .sub (.tmp 75) (.tmp 78)), []⟩,
        ⟨(some 80), .plain (.byte (.const (.string ⟨#[48, 49, 50, 51, 52, 53, 54, 55, 56, 57, 97, 98, 99, 100, 101, 102, 103, 104, 105, 106, 107, 108, 109, 110, 111, 112, 113, 114, 115, 116, 117, 118, 119, 120, 121, 122]⟩)) (.tmp 79)), []⟩,
        ⟨(some 81), .plain (.idxArr 65 1 (.tmp 12) (.tmp 74)), []⟩,
        ⟨none, .plain (.store 1 (.tmp 81) (.tmp 80)), []⟩])
    (.region [⟨(some 82), .plain (.move (.tmp 18)), []⟩,
      ⟨(some 1), .plain (.move (.tmp 82)), []⟩])))))
def ir26 : IFun := ⟨102, [.tmp 10, .tmp 11],
  .seq (.region [⟨(some 10), .plain (.move (.const (.slice none 0 0))), []⟩,
      ⟨(some 11), .plain (.move (.const (.string ⟨#[]⟩))), []⟩])
  (.cut [0, 1, 2, 3, 4, 10, 11] (.seq (.region [⟨(some 19), .plain (.move (.tmp 2)), []⟩,
        ⟨(some 20), .plain (.bin .lss (.tmp 19) (.const (.int .i64 (2)))), []⟩,
        ⟨(some 21), .plain (.move (.tmp 20)), []⟩,
        ⟨(some 22), .plain (.move (.tmp 2)), [(21, false)]⟩,
        ⟨(some 23), .plain (.bin .eql (.tmp 22) (.const (.int .i64 (10)))), [(21, false)]⟩,
        ⟨(some 24), .plain (.pick (.tmp 21) (.const (.bool true)) (.tmp 23)), []⟩,
        ⟨(some 25), .plain (.move (.tmp 24)), []⟩,
        ⟨(some 26), .plain (.move (.tmp 2)), [(25, false)]⟩,
        ⟨(some 27), .plain (.bin .gtr (.tmp 26) (.const (.int .i64 (36)))), [(25, false)]⟩,
        ⟨(some 28), .plain (.pick (.tmp 25) (.const (.bool true)) (.tmp 27)), []⟩])
    (.cond (.tmp 28) (.region [⟨(some 29), .plain (.iface 9 (.const (.string ⟨#[115, 116, 114, 99, 111, 110, 118, 58, 32, 105, 108, 108, 101, 103, 97, 108, 32, 65, 112, 112, 101, 110, 100, 73, 110, 116, 47, 70, 111, 114, 109, 97, 116, 73, 110, 116, 32, 98, 97, 115, 101]⟩))), []⟩,
        ⟨none, .panic (.tmp 29), []⟩])
    (.skip)))
  (.seq (.region [⟨(some 12), .plain (.new 1 [(.int .u8 (0)), (.int .u8 (0)), (.int .u8 (0)), (.int .u8 (0)), (.int .u8 (0)), (.int .u8 (0)), (.int .u8 (0)), (.int .u8 (0)), (.int .u8 (0)), (.int .u8 (0)), (.int .u8 (0)), (.int .u8 (0)), (.int .u8 (0)), (.int .u8 (0)), (.int .u8 (0)), (.int .u8 (0)), (.int .u8 (0)), (.int .u8 (0)), (.int .u8 (0)), (.int .u8 (0)), (.int .u8 (0)), (.int .u8 (0)), (.int .u8 (0)), (.int .u8 (0)), (.int .u8 (0)), (.int .u8 (0)), (.int .u8 (0)), (.int .u8 (0)), (.int .u8 (0)), (.int .u8 (0)), (.int .u8 (0)), (.int .u8 (0)), (.int .u8 (0)), (.int .u8 (0)), (.int .u8 (0)), (.int .u8 (0)), (.int .u8 (0)), (.int .u8 (0)), (.int .u8 (0)), (.int .u8 (0)), (.int .u8 (0)), (.int .u8 (0)), (.int .u8 (0)), (.int .u8 (0)), (.int .u8 (0)), (.int .u8 (0)), (.int .u8 (0)), (.int .u8 (0)), (.int .u8 (0)), (.int .u8 (0)), (.int .u8 (0)), (.int .u8 (0)), (.int .u8 (0)), (.int .u8 (0)), (.int .u8 (0)), (.int .u8 (0)), (.int .u8 (0)), (.int .u8 (0)), (.int .u8 (0)), (.int .u8 (0)), (.int .u8 (0)), (.int .u8 (0)), (.int .u8 (0)), (.int .u8 (0)), (.int .u8 (0))]), []⟩])
  (.seq (.region [⟨(some 13), .plain (.move (.const (.int .i64 (65)))), []⟩])
  (.cut [0, 1, 2, 3, 4, 10, 11, 12, 13] (.seq (.region [⟨(some 30), .plain (.move (.tmp 3)), []⟩])
    (.cond (.tmp 30) (.region [⟨(some 31), .plain (.move (.tmp 1)), []⟩,
        ⟨(some 32), .plain (.un .neg (.tmp 31)), []⟩,
        ⟨(some 1), .plain (.move (.tmp 32)), []⟩])
    (.skip)))
  (.cut [0, 3, 4, 10, 11, 12, 13] (.seq (.region [⟨(some 33), .plain (.move (.tmp 2)), []⟩,
        ⟨(some 34), .call 32 [(.tmp 33)], []⟩])
    (.cond (.tmp 34) (.seq (.region [⟨(some 35), .plain (.move (.tmp 2)), []⟩,
          ⟨(some 36), .plain (.toInt .u64 (.tmp 35)), []⟩,
          ⟨(some 37), .call 33 [(.tmp 36)], []⟩,
          ⟨(some 38), .plain (.toInt .u64 (.tmp 37)), []⟩,
          ⟨(some 14), .plain (.move (.tmp 38)), []⟩])
      (.seq (.region [⟨(some 39), .plain (.move (.tmp 2)), []⟩,
          ⟨(some 40), .plain (.toInt .u64 (.tmp 39)), []⟩,
          ⟨(some 15), .plain (.move (.tmp 40)), []⟩])
      (.seq (.region [⟨(some 41), .plain (.move (.tmp 2)), []⟩,
          ⟨(some 42), .plain (.toInt .u64 (.tmp 41)), []⟩,
          ⟨(some 43), .plain (.bin .sub (.tmp 42) (.const (.int .u64 (1)))), []⟩,
          ⟨(some 16), .plain (.move (.tmp 43)), []⟩])
      (.seq (.block 0 (.loop 2600 [0, 1, 3, 4, 10, 11, 12, 13, 14, 15, 16]))
      (.seq (.region [⟨(some 58), .plain (.move (.tmp 13)), []⟩,
          ⟨(some 59), .plain (.bin .sub (.tmp 58) (.const (.int .i64 (1)))), []⟩,
          ⟨(some 13), .plain (.move (.tmp 59)), []⟩])
      (.region [⟨(some 60), .plain (.move (.tmp 13)), []⟩,
        ⟨(some 61), .plain (.move (.tmp 1)), []⟩,
        ⟨(some 62), .plain (.byte (.const (.string ⟨#[48, 49, 50, 51, 52, 53, 54, 55, 56, 57, 97, 98, 99, 100, 101, 102, 103, 104, 105, 106, 107, 108, 109, 110, 111, 112, 113, 114, 115, 116, 117, 118, 119, 120, 121, 122]⟩)) (.tmp 61)), []⟩,
        ⟨(some 63), .plain (.idxArr 65 1 (.tmp 12) (.tmp 60)), []⟩,
        ⟨none, .plain (.store 1 (.tmp 63) (.tmp 62)), []⟩]))))))
    (.seq (.region [⟨(some 64), .plain (.move (.tmp 2)), []⟩,
          ⟨(some 65), .plain (.toInt .u64 (.tmp 64)), []⟩,
          ⟨(some 17), .plain (.move (.tmp 65)), []⟩])
      (.seq (.block 2 (.loop 2601 [0, 1, 3, 4, 10, 11, 12, 13, 17]))
      (.seq (.region [⟨(some 83), .plain (.move (.tmp 13)), []⟩,
          ⟨(some 84), .plain (.bin .sub (.tmp 83) (.const (.int .i64 (1)))), []⟩,
          ⟨(some 13), .plain (.move (.tmp 84)), []⟩])
      (.region [⟨(some 85), .plain (.move (.tmp 13)), []⟩,
        ⟨(some 86), .plain (.move (.tmp 1)), []⟩,
        ⟨(some 87), .plain (.byte (.const (.string ⟨#[48, 49, 50, 51, 52, 53, 54, 55, 56, 57, 97, 98, 99, 100, 101, 102, 103, 104, 105, 106, 107, 108, 109, 110, 111, 112, 113, 114, 115, 116, 117, 118, 119, 120, 121, 122]⟩)) (.tmp 86)), []⟩,
        ⟨(some 88), .plain (.idxArr 65 1 (.tmp 12) (.tmp 85)), []⟩,
        ⟨none, .plain (.store 1 (.tmp 88) (.tmp 87)), []⟩]))))))
  (.cut [0, 4, 10, 11, 12, 13] (.seq (.region [⟨(some 89), .plain (.move (.tmp 3)), []⟩])
    (.cond (.tmp 89) (.seq (.region [⟨(some 90), .plain (.move (.tmp 13)), []⟩,
          ⟨(some 91), .plain (.bin .sub (.tmp 90) (.const (.int .i64 (1)))), []⟩,
          ⟨(some 13), .plain (.move (.tmp 91)), []⟩])
      (.region [⟨(some 92), .plain (.move (.tmp 13)), []⟩,
        ⟨(some 93), .plain (.idxArr 65 1 (.tmp 12) (.tmp 92)), []⟩,
        ⟨none, .plain (.store 1 (.tmp 93) (.const (.int .u8 (45)))), []⟩]))
    (.skip)))
  (.seq (.seq (.region [⟨(some 94), .plain (.move (.tmp 4)), []⟩])
    (.cond (.tmp 94) (.seq (.region [⟨(some 95), .plain (.move (.tmp 0)), []⟩,
          ⟨(some 96), .plain (.move (.tmp 13)), []⟩,
          ⟨(some 97), .plain (.cutArr 65 1 (.tmp 12) (some (.tmp 96)) none), []⟩,
          ⟨(some 98), .plain (.app false 1 1 (.tmp 95) (.tmp 97)), []⟩,
          ⟨(some 10), .plain (.move (.tmp 98)), []⟩])
      (.ret))
    (.skip)))
  (.seq (.region [⟨(some 99), .plain (.move (.tmp 13)), []⟩,
      ⟨(some 100), .plain (.cutArr 65 1 (.tmp 12) (some (.tmp 99)) none), []⟩,
      ⟨(some 101), .plain (.toStr (.tmp 100)), []⟩,
      ⟨(some 11), .plain (.move (.tmp 101)), []⟩])
  (.ret)))))))))⟩
theorem comp26 : compF Tryd.prog an26 Tryd.f26 = some ir26 := by kernel_rfl
theorem lps26 : loopsF Tryd.prog an26 Tryd.f26 = [(2600, [0, 1, 3, 4, 10, 11, 12, 13, 14, 15, 16], some lb2600), (2601, [0, 1, 3, 4, 10, 11, 12, 13, 17], some lb2601)] := by kernel_rfl
/-- (*noonmark/wire.Splitter).bad -/
def an27 : An := (.s .z (.s .z (.s .z (.s .z .z))))
def ir27 : IFun := ⟨21, [],
  .seq (.region [⟨(some 4), .plain (.move (.tmp 0)), []⟩,
      ⟨(some 5), .plain (.move (.tmp 0)), []⟩,
      ⟨(some 6), .plain (.nilCheck (.tmp 5)), []⟩,
      ⟨(some 7), .plain (.fieldAddr 4 (.tmp 6)), []⟩,
      ⟨(some 8), .plain (.load 1 false (.tmp 7)), []⟩,
      ⟨(some 9), .plain (.build [(0, 1), (1, 1)] [(.bool false), (.slice none 0 0)] [(0, (.const (.bool true)))]), []⟩,
      ⟨(some 10), .plain (.lit 2 1 [(.bool false), (.slice none 0 0)] [(0, (.tmp 9))]), []⟩,
      ⟨(some 11), .plain (.app false 2 32 (.tmp 8) (.tmp 10)), []⟩,
      ⟨(some 12), .plain (.nilCheck (.tmp 4)), []⟩,
      ⟨(some 13), .plain (.fieldAddr 4 (.tmp 12)), []⟩,
      ⟨none, .plain (.store 1 (.tmp 13) (.tmp 11)), []⟩])
  (.seq (.region [⟨(some 14), .plain (.move (.tmp 0)), []⟩,
      ⟨(some 15), .call 28 [(.tmp 14)], []⟩])
  (.seq (.region [⟨(some 16), .plain (.move (.tmp 1)), []⟩,
      ⟨(some 17), .plain (.bin .neq (.tmp 16) (.const (.int .u8 (10)))), []⟩])
  (.cond (.tmp 17) (.region [⟨(some 18), .plain (.move (.tmp 0)), []⟩,
      ⟨(some 19), .plain (.nilCheck (.tmp 18)), []⟩,
      ⟨(some 20), .plain (.fieldAddr 0 (.tmp 19)), []⟩,
      ⟨none, .plain (.store 1 (.tmp 20) (.const (.int .i64 (2)))), []⟩])
  (.skip))))⟩
theorem comp27 : compF Tryd.prog an27 Tryd.f27 = some ir27 := by kernel_rfl
theorem lps27 : loopsF Tryd.prog an27 Tryd.f27 = [] := by kernel_rfl
/-- (*noonmark/wire.Splitter).begin -/
def an28 : An := .z
def ir28 : IFun := ⟨14, [],
  .region [⟨(some 2), .plain (.move (.tmp 0)), []⟩,
    ⟨(some 3), .plain (.move (.tmp 0)), []⟩,
    ⟨(some 4), .plain (.move (.tmp 0)), []⟩,
    ⟨(some 5), .plain (.move (.tmp 0)), []⟩,
    ⟨(some 6), .plain (.nilCheck (.tmp 2)), []⟩,
    ⟨(some 7), .plain (.fieldAddr 0 (.tmp 6)), []⟩,
    ⟨none, .plain (.store 1 (.tmp 7) (.const (.int .i64 (0)))), []⟩,
    ⟨(some 8), .plain (.nilCheck (.tmp 3)), []⟩,
    ⟨(some 9), .plain (.fieldAddr 1 (.tmp 8)), []⟩,
    ⟨none, .plain (.store 1 (.tmp 9) (.const (.slice none 0 0))), []⟩,
    ⟨(some 10), .plain (.nilCheck (.tmp 4)), []⟩,
    ⟨(some 11), .plain (.fieldAddr 2 (.tmp 10)), []⟩,
    ⟨none, .plain (.store 1 (.tmp 11) (.const (.int .i64 (0)))), []⟩,
    ⟨(some 12), .plain (.nilCheck (.tmp 5)), []⟩,
    ⟨(some 13), .plain (.fieldAddr 3 (.tmp 12)), []⟩,
    ⟨none, .plain (.store 1 (.tmp 13) (.const (.int .i64 (0)))), []⟩]⟩
theorem comp28 : compF Tryd.prog an28 Tryd.f28 = some ir28 := by kernel_rfl
theorem lps28 : loopsF Tryd.prog an28 Tryd.f28 = [] := by kernel_rfl
/-- internal/strconv.isPowerOfTwo -/
def an32 : An := (.s .z (.s .z .z))
def ir32 : IFun := ⟨8, [.tmp 2],
  .seq (.region [⟨(some 2), .plain (.move (.const (.bool false))), []⟩])
  (.seq (.region [⟨(some 3), .plain (.move (.tmp 0)), []⟩,
      ⟨(some 4), .plain (.move (.tmp 0)), []⟩,
      ⟨(some 5), .plain (.bin .sub (.tmp 4) (.const (.int .i64 (1)))), []⟩,
      ⟨(some 6), .plain (.bin .and (.tmp 3) (.tmp 5)), []⟩,
      ⟨(some 7), .plain (.bin .eql (.tmp 6) (.const (.int .i64 (0)))), []⟩,
      ⟨(some 2), .plain (.move (.tmp 7)), []⟩])
  (.ret))⟩
theorem comp32 : compF Tryd.prog an32 Tryd.f32 = some ir32 := by kernel_rfl
theorem lps32 : loopsF Tryd.prog an32 Tryd.f32 = [] := by kernel_rfl
/-- math/bits.TrailingZeros -/
def an33 : An := (.s .z (.s (.s (.s .z .z) .z) (.s .z .z)))
def ir33 : IFun := ⟨8, [.tmp 2],
  .seq (.region [⟨(some 2), .plain (.move (.const (.int .i64 (0)))), []⟩])
  (.seq (.cond (.const (.bool false)) (.seq (.region [⟨(some 3), .plain (.move (.tmp 0)), []⟩,
          ⟨(some 4), .plain (.toInt .u32 (.tmp 3)), []⟩,
          ⟨(some 5), .call 34 [(.tmp 4)], []⟩,
          ⟨(some 2), .plain (.move (.tmp 5)), []⟩])
      (.ret))
    (.skip))
  (.seq (.region [⟨(some 6), .plain (.move (.tmp 0)), []⟩,
      ⟨(some 7), .call 35 [(.tmp 6)], []⟩,
      ⟨(some 2), .plain (.move (.tmp 7)), []⟩])
  (.ret)))⟩
theorem comp33 : compF Tryd.prog an33 Tryd.f33 = some ir33 := by kernel_rfl
theorem lps33 : loopsF Tryd.prog an33 Tryd.f33 = [] := by kernel_rfl
/-- math/bits.TrailingZeros32 -/
def an34 : An := (.s .z (.s (.s .z (.s (.s .z .z) .z)) (.s .z .z)))
def ir34 : IFun := ⟨14, [.tmp 2],
  .seq (.region [⟨(some 2), .plain (.move (.const (.int .i64 (0)))), []⟩])
  (.seq (.seq (.region [⟨(some 3), .plain (.move (.tmp 0)), []⟩,
        ⟨(some 4), .plain (.bin .eql (.tmp 3) (.const (.int .u32 (0)))), []⟩])
    (.cond (.tmp 4) (.seq (.region [⟨(some 2), .plain (.move (.const (.int .i64 (32)))), []⟩])
      (.ret))
    (.skip)))
  (.seq (.region [⟨(some 5), .plain (.move (.tmp 0)), []⟩,
      ⟨(some 6), .plain (.move (.tmp 0)), []⟩,
      ⟨(some 7), .plain (.un .neg (.tmp 6)), []⟩,
      ⟨(some 8), .plain (.bin .and (.tmp 5) (.tmp 7)), []⟩,
      ⟨(some 9), .plain (.bin .mul (.tmp 8) (.const (.int .u32 (125613361)))), []⟩,
      ⟨(some 10), .plain (.bin .shr (.tmp 9) (.const (.int .u64 (27)))), []⟩,
      ⟨(some 11), .plain (.idxArr 32 1 (.global 1) (.tmp 10)), []⟩,
      ⟨(some 12), .plain (.load 1 false (.tmp 11)), []⟩,
      ⟨(some 13), .plain (.toInt .i64 (.tmp 12)), []⟩,
      ⟨(some 2), .plain (.move (.tmp 13)), []⟩])
  (.ret)))⟩
theorem comp34 : compF Tryd.prog an34 Tryd.f34 = some ir34 := by kernel_rfl
theorem lps34 : loopsF Tryd.prog an34 Tryd.f34 = [] := by kernel_rfl
/-- math/bits.TrailingZeros64 -/
def an35 : An := (.s .z (.s (.s .z (.s (.s .z .z) .z)) (.s .z .z)))
def ir35 : IFun := ⟨14, [.tmp 2],
  .seq (.region [⟨(some 2), .plain (.move (.const (.int .i64 (0)))), []⟩])
  (.seq (.seq (.region [⟨(some 3), .plain (.move (.tmp 0)), []⟩,
        ⟨(some 4), .plain (.bin .eql (.tmp 3) (.const (.int .u64 (0)))), []⟩])
    (.cond (.tmp 4) (.seq (.region [⟨(some 2), .plain (.move (.const (.int .i64 (64)))), []⟩])
      (.ret))
    (.skip)))
  (.seq (.region [⟨(some 5), .plain (.move (.tmp 0)), []⟩,
      ⟨(some 6), .plain (.move (.tmp 0)), []⟩,
      ⟨(some 7), .plain (.un .neg (.tmp 6)), []⟩,
      ⟨(some 8), .plain (.bin .and (.tmp 5) (.tmp 7)), []⟩,
      ⟨(some 9), .plain (.bin .mul (.tmp 8) (.const (.int .u64 (285870213051353865)))), []⟩,
      ⟨(some 10), .plain (.bin .shr (.tmp 9) (.const (.int .u64 (58)))), []⟩,
      ⟨(some 11), .plain (.idxArr 64 1 (.global 2) (.tmp 10)), []⟩,
      ⟨(some 12), .plain (.load 1 false (.tmp 11)), []⟩,
      ⟨(some 13), .plain (.toInt .i64 (.tmp 12)), []⟩,
      ⟨(some 2), .plain (.move (.tmp 13)), []⟩])
  (.ret)))⟩
theorem comp35 : compF Tryd.prog an35 Tryd.f35 = some ir35 := by kernel_rfl
theorem lps35 : loopsF Tryd.prog an35 Tryd.f35 = [] := by kernel_rfl
def irsT : List (Nat × IFun) := [(3, ir3), (4, ir4), (5, ir5), (6, ir6), (7, ir7), (8, ir8), (9, ir9), (10, ir10), (11, ir11), (12, ir12), (13, ir13), (14, ir14), (15, ir15), (16, ir16), (17, ir17), (18, ir18), (19, ir19), (20, ir20), (21, ir21), (22, ir22), (25, ir25), (26, ir26), (27, ir27), (28, ir28), (32, ir32), (33, ir33), (34, ir34), (35, ir35)]
def lpsT : List (Nat × List Nat × IC) := [(400, [0, 2, 3, 4], lb400), (401, [0, 2, 7, 9], lb401), (500, [0, 1, 5, 7, 8], lb500), (800, [0, 1, 4, 5], lb800), (1400, [0, 10, 11, 12], lb1400), (2500, [0, 1, 4], lb2500), (2600, [0, 1, 3, 4, 10, 11, 12, 13, 14, 15, 16], lb2600), (2601, [0, 1, 3, 4, 10, 11, 12, 13, 17], lb2601)]
/-- The code, with what is given. -/
def CC (gv : FuncId → Option (List Value → Mem → Option (Value × Mem))) : Code? := ⟨look irsT, look lpsT, gv⟩
theorem CC_fit (gv : FuncId → Option (List Value → Mem → Option (Value × Mem))) : ∀ f fn, (CC gv).irs f = some fn → FitF Tryd.prog (CC gv) f fn := by
  intro f fn h
  have hm := look_mem h
  simp only [irsT, List.mem_cons, List.not_mem_nil, or_false, Prod.mk.injEq] at hm
  rcases hm with ⟨rfl, rfl⟩ | ⟨rfl, rfl⟩ | ⟨rfl, rfl⟩ | ⟨rfl, rfl⟩ | ⟨rfl, rfl⟩ | ⟨rfl, rfl⟩ | ⟨rfl, rfl⟩ | ⟨rfl, rfl⟩ | ⟨rfl, rfl⟩ | ⟨rfl, rfl⟩ | ⟨rfl, rfl⟩ | ⟨rfl, rfl⟩ | ⟨rfl, rfl⟩ | ⟨rfl, rfl⟩ | ⟨rfl, rfl⟩ | ⟨rfl, rfl⟩ | ⟨rfl, rfl⟩ | ⟨rfl, rfl⟩ | ⟨rfl, rfl⟩ | ⟨rfl, rfl⟩ | ⟨rfl, rfl⟩ | ⟨rfl, rfl⟩ | ⟨rfl, rfl⟩ | ⟨rfl, rfl⟩ | ⟨rfl, rfl⟩ | ⟨rfl, rfl⟩ | ⟨rfl, rfl⟩ | ⟨rfl, rfl⟩
  · exact compF_fit Tryd.func3 comp3 (by rw [lps3]; intro x hx; cases hx)
  · exact compF_fit Tryd.func4 comp4 (by rw [lps4]; intro x hx; simp only [List.mem_cons, List.not_mem_nil, or_false] at hx; rcases hx with rfl | rfl <;> exact ⟨_, rfl, rfl⟩)
  · exact compF_fit Tryd.func5 comp5 (by rw [lps5]; intro x hx; simp only [List.mem_cons, List.not_mem_nil, or_false] at hx; rcases hx with rfl <;> exact ⟨_, rfl, rfl⟩)
  · exact compF_fit Tryd.func6 comp6 (by rw [lps6]; intro x hx; cases hx)
  · exact compF_fit Tryd.func7 comp7 (by rw [lps7]; intro x hx; cases hx)
  · exact compF_fit Tryd.func8 comp8 (by rw [lps8]; intro x hx; simp only [List.mem_cons, List.not_mem_nil, or_false] at hx; rcases hx with rfl <;> exact ⟨_, rfl, rfl⟩)
  · exact compF_fit Tryd.func9 comp9 (by rw [lps9]; intro x hx; cases hx)
  · exact compF_fit Tryd.func10 comp10 (by rw [lps10]; intro x hx; cases hx)
  · exact compF_fit Tryd.func11 comp11 (by rw [lps11]; intro x hx; cases hx)
  · exact compF_fit Tryd.func12 comp12 (by rw [lps12]; intro x hx; cases hx)
  · exact compF_fit Tryd.func13 comp13 (by rw [lps13]; intro x hx; cases hx)
  · exact compF_fit Tryd.func14 comp14 (by rw [lps14]; intro x hx; simp only [List.mem_cons, List.not_mem_nil, or_false] at hx; rcases hx with rfl <;> exact ⟨_, rfl, rfl⟩)
  · exact compF_fit Tryd.func15 comp15 (by rw [lps15]; intro x hx; cases hx)
  · exact compF_fit Tryd.func16 comp16 (by rw [lps16]; intro x hx; cases hx)
  · exact compF_fit Tryd.func17 comp17 (by rw [lps17]; intro x hx; cases hx)
  · exact compF_fit Tryd.func18 comp18 (by rw [lps18]; intro x hx; cases hx)
  · exact compF_fit Tryd.func19 comp19 (by rw [lps19]; intro x hx; cases hx)
  · exact compF_fit Tryd.func20 comp20 (by rw [lps20]; intro x hx; cases hx)
  · exact compF_fit Tryd.func21 comp21 (by rw [lps21]; intro x hx; cases hx)
  · exact compF_fit Tryd.func22 comp22 (by rw [lps22]; intro x hx; cases hx)
  · exact compF_fit Tryd.func25 comp25 (by rw [lps25]; intro x hx; simp only [List.mem_cons, List.not_mem_nil, or_false] at hx; rcases hx with rfl <;> exact ⟨_, rfl, rfl⟩)
  · exact compF_fit Tryd.func26 comp26 (by rw [lps26]; intro x hx; simp only [List.mem_cons, List.not_mem_nil, or_false] at hx; rcases hx with rfl | rfl <;> exact ⟨_, rfl, rfl⟩)
  · exact compF_fit Tryd.func27 comp27 (by rw [lps27]; intro x hx; cases hx)
  · exact compF_fit Tryd.func28 comp28 (by rw [lps28]; intro x hx; cases hx)
  · exact compF_fit Tryd.func32 comp32 (by rw [lps32]; intro x hx; cases hx)
  · exact compF_fit Tryd.func33 comp33 (by rw [lps33]; intro x hx; cases hx)
  · exact compF_fit Tryd.func34 comp34 (by rw [lps34]; intro x hx; cases hx)
  · exact compF_fit Tryd.func35 comp35 (by rw [lps35]; intro x hx; cases hx)
end Go.Proofs.YthihiidooomdnaaDoor.D
