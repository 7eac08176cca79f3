/-
  The code that the statements reach, read: printed by Vtool, checked by the kernel.
-/
import Derived.Test.YtjojfpmelhaknaaD21
import Derived.Test.YtjojfpmelhaknaaProg
namespace Go.Proofs.Ytjojfpmelhaknaa.D
open Go.RowKit
set_option maxRecDepth 100000
/-- noonmark/noonmarklaw03.RopePlays -/
def an3 : An := (.s .z (.s (.s .z (.s (.s .z .z) .z)) (.s .z (.s (.s .z (.s (.s .z .z) .z)) (.s (.s .z (.b (.l 300 [0, 1, 4, 5, 6, 7] (.s (.s .z (.s .z .z)) (.s (.b (.s .z (.s .z (.s (.s .z (.s (.s .z .z) .z)) (.k [0, 1, 4, 5, 6, 7] (.s .z (.s (.s .z .z) .z)) (.s .z (.s (.s .z .z) .z))))))) .z))))) (.s .z .z))))))
def lb300 : IC :=
  .seq (.seq (.region [⟨(some 35), .plain (.move (.tmp 7)), []⟩,
        ⟨(some 36), .plain (.move (.tmp 1)), []⟩,
        ⟨(some 37), .plain (.len false (.tmp 36)), []⟩,
        ⟨(some 38), .plain (.bin .lss (.tmp 35) (.tmp 37)), []⟩])
    (.cond (.tmp 38) (.skip)
    (.exit 0)))
  (.seq (.block 1 (.seq (.draws [(⟨(some 42), .plain (.move (.tmp 5)), []⟩, [5], .pure),
          (⟨(some 43), .plain (.move (.tmp 1)), []⟩, [1], .pure),
          (⟨(some 44), .plain (.move (.tmp 7)), []⟩, [7], .pure),
          (⟨(some 45), .plain (.idx 3 (.tmp 43) (.tmp 44)), []⟩, [43, 44], .pure),
          (⟨(some 46), .plain (.fieldAddr 0 (.tmp 45)), []⟩, [45], .pure),
          (⟨(some 47), .plain (.load 1 false (.tmp 46)), []⟩, [46], .peek),
          (⟨(some 48), .plain (.move (.tmp 1)), []⟩, [1], .pure),
          (⟨(some 49), .plain (.move (.tmp 7)), []⟩, [7], .pure),
          (⟨(some 50), .plain (.idx 3 (.tmp 48) (.tmp 49)), []⟩, [48, 49], .pure),
          (⟨(some 51), .plain (.fieldAddr 1 (.tmp 50)), []⟩, [50], .pure),
          (⟨(some 52), .plain (.load 1 false (.tmp 51)), []⟩, [51], .peek),
          (⟨(some 53), .plain (.move (.tmp 1)), []⟩, [1], .pure),
          (⟨(some 54), .plain (.move (.tmp 7)), []⟩, [7], .pure),
          (⟨(some 55), .plain (.idx 3 (.tmp 53) (.tmp 54)), []⟩, [53, 54], .pure),
          (⟨(some 56), .plain (.fieldAddr 2 (.tmp 55)), []⟩, [55], .pure),
          (⟨(some 57), .plain (.load 1 false (.tmp 56)), []⟩, [56], .peek),
          (⟨(some 58), .call 13 [(.tmp 42), (.tmp 47), (.tmp 52), (.tmp 57)], []⟩, [42, 47, 52, 57], .lone true []),
          (⟨(some 41), .plain (.move (.tmp 58)), []⟩, [58], .pure),
          (⟨(some 59), .plain (.extract 0 (.tmp 41)), []⟩, [41], .pure),
          (⟨(some 60), .plain (.extract 1 (.tmp 41)), []⟩, [41], .pure),
          (⟨(some 8), .plain (.move (.tmp 59)), []⟩, [59], .pure),
          (⟨(some 9), .plain (.move (.tmp 60)), []⟩, [60], .pure)])
      (.seq (.draws [(⟨(some 62), .plain (.move (.tmp 0)), []⟩, [0], .pure),
          (⟨(some 63), .plain (.move (.tmp 1)), []⟩, [1], .pure),
          (⟨(some 64), .plain (.move (.tmp 7)), []⟩, [7], .pure),
          (⟨(some 65), .plain (.idx 3 (.tmp 63) (.tmp 64)), []⟩, [63, 64], .pure),
          (⟨(some 66), .plain (.fieldAddr 0 (.tmp 65)), []⟩, [65], .pure),
          (⟨(some 67), .plain (.load 1 false (.tmp 66)), []⟩, [66], .peek),
          (⟨(some 68), .plain (.move (.tmp 1)), []⟩, [1], .pure),
          (⟨(some 69), .plain (.move (.tmp 7)), []⟩, [7], .pure),
          (⟨(some 70), .plain (.idx 3 (.tmp 68) (.tmp 69)), []⟩, [68, 69], .pure),
          (⟨(some 71), .plain (.fieldAddr 1 (.tmp 70)), []⟩, [70], .pure),
          (⟨(some 72), .plain (.load 1 false (.tmp 71)), []⟩, [71], .peek),
          (⟨(some 73), .plain (.move (.tmp 1)), []⟩, [1], .pure),
          (⟨(some 74), .plain (.move (.tmp 7)), []⟩, [7], .pure),
          (⟨(some 75), .plain (.idx 3 (.tmp 73) (.tmp 74)), []⟩, [73, 74], .pure),
          (⟨(some 76), .plain (.fieldAddr 2 (.tmp 75)), []⟩, [75], .pure),
          (⟨(some 77), .plain (.load 1 false (.tmp 76)), []⟩, [76], .peek),
          (⟨(some 78), .call 14 [(.tmp 62), (.tmp 67), (.tmp 72), (.tmp 77)], []⟩, [62, 67, 72, 77], .lone true []),
          (⟨(some 61), .plain (.move (.tmp 78)), []⟩, [78], .pure),
          (⟨(some 79), .plain (.extract 0 (.tmp 61)), []⟩, [61], .pure),
          (⟨(some 80), .plain (.extract 1 (.tmp 61)), []⟩, [61], .pure),
          (⟨(some 10), .plain (.move (.tmp 79)), []⟩, [79], .pure),
          (⟨(some 11), .plain (.move (.tmp 80)), []⟩, [80], .pure)])
      (.seq (.seq (.region [⟨(some 81), .plain (.move (.tmp 9)), []⟩,
            ⟨(some 82), .plain (.move (.tmp 11)), []⟩,
            ⟨(some 83), .plain (.bin .neq (.tmp 81) (.tmp 82)), []⟩,
            ⟨(some 84), .plain (.move (.tmp 83)), []⟩,
            ⟨(some 85), .plain (.move (.tmp 8)), [(84, false)]⟩,
            ⟨(some 86), .call 15 [(.tmp 85)], [(84, false)]⟩,
            ⟨(some 87), .plain (.move (.tmp 10)), [(84, false)]⟩,
            ⟨(some 88), .plain (.bin .neq (.tmp 86) (.tmp 87)), [(84, false)]⟩,
            ⟨(some 89), .plain (.pick (.tmp 84) (.const (.bool true)) (.tmp 88)), []⟩,
            ⟨(some 90), .plain (.move (.tmp 89)), []⟩,
            ⟨(some 91), .plain (.move (.tmp 5)), [(90, false)]⟩,
            ⟨(some 92), .call 15 [(.tmp 91)], [(90, false)]⟩,
            ⟨(some 93), .plain (.move (.tmp 0)), [(90, false)]⟩,
            ⟨(some 94), .plain (.bin .neq (.tmp 92) (.tmp 93)), [(90, false)]⟩,
            ⟨(some 95), .plain (.pick (.tmp 90) (.const (.bool true)) (.tmp 94)), []⟩])
        (.cond (.tmp 95) (.seq (.region [⟨(some 4), .plain (.move (.const (.bool false))), []⟩])
          (.ret))
        (.skip)))
      (.cut [0, 1, 4, 5, 6, 7] (.seq (.region [⟨(some 96), .plain (.move (.tmp 9)), []⟩,
            ⟨(some 97), .plain (.bin .eql (.tmp 96) (.const (.int .i64 (0)))), []⟩])
        (.cond (.tmp 97) (.seq (.region [⟨(some 98), .plain (.move (.tmp 8)), []⟩,
              ⟨(some 5), .plain (.move (.tmp 98)), []⟩])
          (.region [⟨(some 99), .plain (.move (.tmp 10)), []⟩,
            ⟨(some 0), .plain (.move (.tmp 99)), []⟩]))
        (.skip)))
      (.seq (.region [⟨(some 100), .plain (.move (.tmp 5)), []⟩,
          ⟨(some 101), .call 12 [(.tmp 100)], []⟩,
          ⟨(some 102), .plain (.move (.tmp 0)), []⟩,
          ⟨(some 103), .plain (.len true (.tmp 102)), []⟩,
          ⟨(some 104), .plain (.bin .neq (.tmp 101) (.tmp 103)), []⟩,
          ⟨(some 105), .plain (.move (.tmp 104)), []⟩,
          ⟨(some 106), .plain (.move (.tmp 5)), [(105, false)]⟩,
          ⟨(some 107), .call 16 [(.tmp 106)], [(105, false)]⟩,
          ⟨(some 108), .plain (.move (.tmp 0)), [(105, false)]⟩,
          ⟨(some 109), .call 17 [(.tmp 108)], [(105, false)]⟩,
          ⟨(some 110), .plain (.len false (.tmp 109)), [(105, false)]⟩,
          ⟨(some 111), .plain (.bin .neq (.tmp 107) (.tmp 110)), [(105, false)]⟩,
          ⟨(some 112), .plain (.pick (.tmp 105) (.const (.bool true)) (.tmp 111)), []⟩])
      (.cond (.tmp 112) (.seq (.region [⟨(some 4), .plain (.move (.const (.bool false))), []⟩])
        (.ret))
      (.skip))))))))
  (.region [⟨(some 39), .plain (.move (.tmp 7)), []⟩,
    ⟨(some 40), .plain (.bin .add (.tmp 39) (.const (.int .i64 (1)))), []⟩,
    ⟨(some 7), .plain (.move (.tmp 40)), []⟩]))
def ir3 : IFun := ⟨118, [.tmp 4],
  .seq (.region [⟨(some 4), .plain (.move (.const (.bool false))), []⟩])
  (.seq (.seq (.region [⟨(some 12), .plain (.move (.tmp 0)), []⟩,
        ⟨(some 13), .plain (.move (.tmp 1)), []⟩,
        ⟨(some 14), .call 9 [(.tmp 12), (.tmp 13)], []⟩,
        ⟨(some 15), .plain (.un .not (.tmp 14)), []⟩])
    (.cond (.tmp 15) (.seq (.region [⟨(some 16), .call 10 [], []⟩,
          ⟨(some 4), .plain (.move (.tmp 16)), []⟩])
      (.ret))
    (.skip)))
  (.seq (.region [⟨(some 18), .plain (.move (.tmp 0)), []⟩,
      ⟨(some 19), .call 11 [(.tmp 18)], []⟩,
      ⟨(some 17), .plain (.move (.tmp 19)), []⟩,
      ⟨(some 20), .plain (.extract 0 (.tmp 17)), []⟩,
      ⟨(some 21), .plain (.extract 1 (.tmp 17)), []⟩,
      ⟨(some 5), .plain (.move (.tmp 20)), []⟩,
      ⟨(some 6), .plain (.move (.tmp 21)), []⟩])
  (.seq (.seq (.region [⟨(some 22), .plain (.move (.tmp 0)), []⟩,
        ⟨(some 23), .plain (.len true (.tmp 22)), []⟩,
        ⟨(some 24), .plain (.bin .gtr (.tmp 23) (.const (.int .i64 (20000)))), []⟩])
    (.cond (.tmp 24) (.seq (.region [⟨(some 25), .plain (.move (.tmp 6)), []⟩,
          ⟨(some 26), .plain (.bin .eql (.tmp 25) (.const (.int .i64 (17)))), []⟩,
          ⟨(some 27), .plain (.move (.tmp 26)), []⟩,
          ⟨(some 28), .plain (.move (.tmp 5)), [(27, true)]⟩,
          ⟨(some 29), .call 12 [(.tmp 28)], [(27, true)]⟩,
          ⟨(some 30), .plain (.bin .eql (.tmp 29) (.const (.int .i64 (0)))), [(27, true)]⟩,
          ⟨(some 31), .plain (.pick (.tmp 27) (.tmp 30) (.const (.bool false))), []⟩,
          ⟨(some 32), .plain (.move (.tmp 31)), []⟩,
          ⟨(some 33), .call 10 [], [(32, true)]⟩,
          ⟨(some 34), .plain (.pick (.tmp 32) (.tmp 33) (.const (.bool false))), []⟩,
          ⟨(some 4), .plain (.move (.tmp 34)), []⟩])
      (.ret))
    (.skip)))
  (.seq (.seq (.region [⟨(some 7), .plain (.move (.const (.int .i64 (0)))), []⟩])
    (.block 0 (.loop 300 [0, 1, 4, 5, 6, 7])))
  (.seq (.region [⟨(some 113), .plain (.move (.tmp 6)), []⟩,
      ⟨(some 114), .plain (.bin .eql (.tmp 113) (.const (.int .i64 (0)))), []⟩,
      ⟨(some 115), .plain (.move (.tmp 114)), []⟩,
      ⟨(some 116), .call 10 [], [(115, true)]⟩,
      ⟨(some 117), .plain (.pick (.tmp 115) (.tmp 116) (.const (.bool false))), []⟩,
      ⟨(some 4), .plain (.move (.tmp 117)), []⟩])
  (.ret))))))⟩
theorem comp3 : compF Try.prog an3 Try.f3 = some ir3 := by kernel_rfl
theorem lps3 : loopsF Try.prog an3 Try.f3 = [(300, [0, 1, 4, 5, 6, 7], some lb300)] := by kernel_rfl
/-- noonmark/noonmarklaw03.RopeHeight -/
def an4 : An := (.s .z (.s (.s .z (.s (.s .z .z) .z)) (.s .z (.s (.s .z (.b (.l 400 [1, 4, 5, 6, 7] (.s (.s .z (.s .z .z)) (.s (.b (.s .z (.k [1, 4, 5, 6, 7] (.s .z (.s .z .z)) (.s .z (.s (.s .z .z) .z))))) .z))))) (.s .z .z)))))
def lb400 : IC :=
  .seq (.seq (.region [⟨(some 20), .plain (.move (.tmp 7)), []⟩,
        ⟨(some 21), .plain (.move (.tmp 1)), []⟩,
        ⟨(some 22), .plain (.len false (.tmp 21)), []⟩,
        ⟨(some 23), .plain (.bin .lss (.tmp 20) (.tmp 22)), []⟩,
        ⟨(some 24), .plain (.move (.tmp 23)), []⟩,
        ⟨(some 25), .plain (.move (.tmp 6)), [(24, true)]⟩,
        ⟨(some 26), .plain (.bin .eql (.tmp 25) (.const (.int .i64 (0)))), [(24, true)]⟩,
        ⟨(some 27), .plain (.pick (.tmp 24) (.tmp 26) (.const (.bool false))), []⟩])
    (.cond (.tmp 27) (.skip)
    (.exit 0)))
  (.seq (.block 1 (.seq (.draws [(⟨(some 31), .plain (.move (.tmp 5)), []⟩, [5], .pure),
          (⟨(some 32), .plain (.move (.tmp 1)), []⟩, [1], .pure),
          (⟨(some 33), .plain (.move (.tmp 7)), []⟩, [7], .pure),
          (⟨(some 34), .plain (.idx 3 (.tmp 32) (.tmp 33)), []⟩, [32, 33], .pure),
          (⟨(some 35), .plain (.fieldAddr 0 (.tmp 34)), []⟩, [34], .pure),
          (⟨(some 36), .plain (.load 1 false (.tmp 35)), []⟩, [35], .peek),
          (⟨(some 37), .plain (.move (.tmp 1)), []⟩, [1], .pure),
          (⟨(some 38), .plain (.move (.tmp 7)), []⟩, [7], .pure),
          (⟨(some 39), .plain (.idx 3 (.tmp 37) (.tmp 38)), []⟩, [37, 38], .pure),
          (⟨(some 40), .plain (.fieldAddr 1 (.tmp 39)), []⟩, [39], .pure),
          (⟨(some 41), .plain (.load 1 false (.tmp 40)), []⟩, [40], .peek),
          (⟨(some 42), .plain (.move (.tmp 1)), []⟩, [1], .pure),
          (⟨(some 43), .plain (.move (.tmp 7)), []⟩, [7], .pure),
          (⟨(some 44), .plain (.idx 3 (.tmp 42) (.tmp 43)), []⟩, [42, 43], .pure),
          (⟨(some 45), .plain (.fieldAddr 2 (.tmp 44)), []⟩, [44], .pure),
          (⟨(some 46), .plain (.load 1 false (.tmp 45)), []⟩, [45], .peek),
          (⟨(some 47), .call 13 [(.tmp 31), (.tmp 36), (.tmp 41), (.tmp 46)], []⟩, [31, 36, 41, 46], .lone true []),
          (⟨(some 30), .plain (.move (.tmp 47)), []⟩, [47], .pure),
          (⟨(some 48), .plain (.extract 0 (.tmp 30)), []⟩, [30], .pure),
          (⟨(some 49), .plain (.extract 1 (.tmp 30)), []⟩, [30], .pure),
          (⟨(some 8), .plain (.move (.tmp 48)), []⟩, [48], .pure),
          (⟨(some 9), .plain (.move (.tmp 49)), []⟩, [49], .pure)])
      (.cut [1, 4, 5, 6, 7] (.seq (.region [⟨(some 50), .plain (.move (.tmp 9)), []⟩,
            ⟨(some 51), .plain (.bin .eql (.tmp 50) (.const (.int .i64 (0)))), []⟩])
        (.cond (.tmp 51) (.region [⟨(some 52), .plain (.move (.tmp 8)), []⟩,
            ⟨(some 5), .plain (.move (.tmp 52)), []⟩])
        (.skip)))
      (.seq (.region [⟨(some 53), .plain (.move (.tmp 5)), []⟩,
          ⟨(some 54), .call 18 [(.tmp 53)], []⟩,
          ⟨(some 55), .plain (.bin .lss (.tmp 54) (.const (.int .i64 (0)))), []⟩,
          ⟨(some 56), .plain (.move (.tmp 55)), []⟩,
          ⟨(some 57), .plain (.move (.tmp 5)), [(56, false)]⟩,
          ⟨(some 58), .call 18 [(.tmp 57)], [(56, false)]⟩,
          ⟨(some 59), .plain (.bin .gtr (.tmp 58) (.const (.int .i64 (30)))), [(56, false)]⟩,
          ⟨(some 60), .plain (.pick (.tmp 56) (.const (.bool true)) (.tmp 59)), []⟩,
          ⟨(some 61), .plain (.move (.tmp 60)), []⟩,
          ⟨(some 62), .plain (.move (.tmp 5)), [(61, false)]⟩,
          ⟨(some 63), .call 18 [(.tmp 62)], [(61, false)]⟩,
          ⟨(some 64), .plain (.bin .eql (.tmp 63) (.const (.int .i64 (0)))), [(61, false)]⟩,
          ⟨(some 65), .plain (.move (.tmp 5)), [(61, false)]⟩,
          ⟨(some 66), .call 12 [(.tmp 65)], [(61, false)]⟩,
          ⟨(some 67), .plain (.bin .eql (.tmp 66) (.const (.int .i64 (0)))), [(61, false)]⟩,
          ⟨(some 68), .plain (.eqB true (.tmp 64) (.tmp 67)), [(61, false)]⟩,
          ⟨(some 69), .plain (.pick (.tmp 61) (.const (.bool true)) (.tmp 68)), []⟩])
      (.cond (.tmp 69) (.seq (.region [⟨(some 4), .plain (.move (.const (.bool false))), []⟩])
        (.ret))
      (.skip))))))
  (.region [⟨(some 28), .plain (.move (.tmp 7)), []⟩,
    ⟨(some 29), .plain (.bin .add (.tmp 28) (.const (.int .i64 (1)))), []⟩,
    ⟨(some 7), .plain (.move (.tmp 29)), []⟩]))
def ir4 : IFun := ⟨71, [.tmp 4],
  .seq (.region [⟨(some 4), .plain (.move (.const (.bool false))), []⟩])
  (.seq (.seq (.region [⟨(some 10), .plain (.move (.tmp 0)), []⟩,
        ⟨(some 11), .plain (.move (.tmp 1)), []⟩,
        ⟨(some 12), .call 9 [(.tmp 10), (.tmp 11)], []⟩,
        ⟨(some 13), .plain (.un .not (.tmp 12)), []⟩])
    (.cond (.tmp 13) (.seq (.region [⟨(some 14), .call 10 [], []⟩,
          ⟨(some 4), .plain (.move (.tmp 14)), []⟩])
      (.ret))
    (.skip)))
  (.seq (.region [⟨(some 16), .plain (.move (.tmp 0)), []⟩,
      ⟨(some 17), .call 11 [(.tmp 16)], []⟩,
      ⟨(some 15), .plain (.move (.tmp 17)), []⟩,
      ⟨(some 18), .plain (.extract 0 (.tmp 15)), []⟩,
      ⟨(some 19), .plain (.extract 1 (.tmp 15)), []⟩,
      ⟨(some 5), .plain (.move (.tmp 18)), []⟩,
      ⟨(some 6), .plain (.move (.tmp 19)), []⟩])
  (.seq (.seq (.region [⟨(some 7), .plain (.move (.const (.int .i64 (0)))), []⟩])
    (.block 0 (.loop 400 [1, 4, 5, 6, 7])))
  (.seq (.region [⟨(some 70), .call 10 [], []⟩,
      ⟨(some 4), .plain (.move (.tmp 70)), []⟩])
  (.ret)))))⟩
theorem comp4 : compF Try.prog an4 Try.f4 = some ir4 := by kernel_rfl
theorem lps4 : loopsF Try.prog an4 Try.f4 = [(400, [1, 4, 5, 6, 7], some lb400)] := by kernel_rfl
/-- noonmark/noonmarklaw03.RopeBack -/
def an5 : An := (.s .z (.s (.s .z (.s (.s .z .z) .z)) (.s .z (.s (.s .z (.s (.s .z .z) .z)) (.s .z (.k [2, 3, 8, 9, 14] (.s .z (.s (.s .z (.s .z (.s (.s .z .z) .z))) .z)) (.s .z (.k [2, 8, 9, 14] (.s .z (.s (.s .z (.s .z (.s (.s .z .z) .z))) .z)) (.s .z .z)))))))))
def ir5 : IFun := ⟨107, [.tmp 8],
  .seq (.region [⟨(some 8), .plain (.move (.const (.bool false))), []⟩])
  (.seq (.seq (.region [⟨(some 22), .plain (.move (.tmp 0)), []⟩,
        ⟨(some 23), .plain (.move (.tmp 1)), []⟩,
        ⟨(some 24), .call 9 [(.tmp 22), (.tmp 23)], []⟩,
        ⟨(some 25), .plain (.un .not (.tmp 24)), []⟩,
        ⟨(some 26), .plain (.move (.tmp 25)), []⟩,
        ⟨(some 27), .plain (.move (.tmp 0)), [(26, false)]⟩,
        ⟨(some 28), .plain (.len true (.tmp 27)), [(26, false)]⟩,
        ⟨(some 29), .plain (.bin .gtr (.tmp 28) (.const (.int .i64 (2000)))), [(26, false)]⟩,
        ⟨(some 30), .plain (.pick (.tmp 26) (.const (.bool true)) (.tmp 29)), []⟩])
    (.cond (.tmp 30) (.seq (.region [⟨(some 31), .call 10 [], []⟩,
          ⟨(some 8), .plain (.move (.tmp 31)), []⟩])
      (.ret))
    (.skip)))
  (.seq (.region [⟨(some 33), .plain (.move (.tmp 0)), []⟩,
      ⟨(some 34), .plain (.move (.tmp 1)), []⟩,
      ⟨(some 35), .call 19 [(.tmp 33), (.tmp 34)], []⟩,
      ⟨(some 32), .plain (.move (.tmp 35)), []⟩,
      ⟨(some 36), .plain (.extract 0 (.tmp 32)), []⟩,
      ⟨(some 37), .plain (.extract 1 (.tmp 32)), []⟩,
      ⟨(some 38), .plain (.extract 2 (.tmp 32)), []⟩,
      ⟨(some 9), .plain (.move (.tmp 36)), []⟩,
      ⟨(some 10), .plain (.move (.tmp 37)), []⟩,
      ⟨(some 11), .plain (.move (.tmp 38)), []⟩])
  (.seq (.seq (.region [⟨(some 39), .plain (.move (.tmp 11)), []⟩,
        ⟨(some 40), .plain (.un .not (.tmp 39)), []⟩])
    (.cond (.tmp 40) (.seq (.region [⟨(some 41), .call 10 [], []⟩,
          ⟨(some 8), .plain (.move (.tmp 41)), []⟩])
      (.ret))
    (.skip)))
  (.seq (.region [⟨(some 43), .plain (.move (.tmp 9)), []⟩,
      ⟨(some 44), .plain (.move (.tmp 2)), []⟩,
      ⟨(some 45), .call 20 [(.tmp 43), (.tmp 44)], []⟩,
      ⟨(some 42), .plain (.move (.tmp 45)), []⟩,
      ⟨(some 46), .plain (.extract 0 (.tmp 42)), []⟩,
      ⟨(some 47), .plain (.extract 1 (.tmp 42)), []⟩,
      ⟨(some 48), .plain (.extract 2 (.tmp 42)), []⟩,
      ⟨(some 12), .plain (.move (.tmp 46)), []⟩,
      ⟨(some 13), .plain (.move (.tmp 47)), []⟩,
      ⟨(some 14), .plain (.move (.tmp 48)), []⟩])
  (.cut [2, 3, 8, 9, 14] (.seq (.region [⟨(some 49), .plain (.move (.tmp 14)), []⟩,
        ⟨(some 50), .plain (.bin .eql (.tmp 49) (.const (.int .i64 (0)))), []⟩])
    (.cond (.tmp 50) (.seq (.region [⟨(some 52), .plain (.move (.tmp 9)), []⟩,
          ⟨(some 53), .plain (.move (.tmp 12)), []⟩,
          ⟨(some 54), .plain (.move (.tmp 13)), []⟩,
          ⟨(some 55), .call 21 [(.tmp 52), (.tmp 53), (.tmp 54)], []⟩,
          ⟨(some 51), .plain (.move (.tmp 55)), []⟩,
          ⟨(some 56), .plain (.extract 0 (.tmp 51)), []⟩,
          ⟨(some 57), .plain (.extract 1 (.tmp 51)), []⟩,
          ⟨(some 15), .plain (.move (.tmp 56)), []⟩,
          ⟨(some 16), .plain (.move (.tmp 57)), []⟩])
      (.seq (.region [⟨(some 58), .plain (.move (.tmp 16)), []⟩,
          ⟨(some 59), .plain (.bin .neq (.tmp 58) (.const (.int .i64 (0)))), []⟩,
          ⟨(some 60), .plain (.move (.tmp 59)), []⟩,
          ⟨(some 61), .plain (.move (.tmp 15)), [(60, false)]⟩,
          ⟨(some 62), .plain (.move (.tmp 2)), [(60, false)]⟩,
          ⟨(some 63), .plain (.bin .neq (.tmp 61) (.tmp 62)), [(60, false)]⟩,
          ⟨(some 64), .plain (.pick (.tmp 60) (.const (.bool true)) (.tmp 63)), []⟩])
      (.cond (.tmp 64) (.seq (.region [⟨(some 8), .plain (.move (.const (.bool false))), []⟩])
        (.ret))
      (.skip))))
    (.skip)))
  (.seq (.region [⟨(some 66), .plain (.move (.tmp 9)), []⟩,
      ⟨(some 67), .plain (.move (.tmp 2)), []⟩,
      ⟨(some 68), .plain (.move (.tmp 3)), []⟩,
      ⟨(some 69), .call 21 [(.tmp 66), (.tmp 67), (.tmp 68)], []⟩,
      ⟨(some 65), .plain (.move (.tmp 69)), []⟩,
      ⟨(some 70), .plain (.extract 0 (.tmp 65)), []⟩,
      ⟨(some 71), .plain (.extract 1 (.tmp 65)), []⟩,
      ⟨(some 17), .plain (.move (.tmp 70)), []⟩,
      ⟨(some 18), .plain (.move (.tmp 71)), []⟩])
  (.cut [2, 8, 9, 14] (.seq (.region [⟨(some 72), .plain (.move (.tmp 18)), []⟩,
        ⟨(some 73), .plain (.bin .eql (.tmp 72) (.const (.int .i64 (0)))), []⟩])
    (.cond (.tmp 73) (.seq (.region [⟨(some 75), .plain (.move (.tmp 9)), []⟩,
          ⟨(some 76), .plain (.move (.tmp 17)), []⟩,
          ⟨(some 77), .call 20 [(.tmp 75), (.tmp 76)], []⟩,
          ⟨(some 74), .plain (.move (.tmp 77)), []⟩,
          ⟨(some 78), .plain (.extract 0 (.tmp 74)), []⟩,
          ⟨(some 79), .plain (.extract 1 (.tmp 74)), []⟩,
          ⟨(some 80), .plain (.extract 2 (.tmp 74)), []⟩,
          ⟨(some 19), .plain (.move (.tmp 78)), []⟩,
          ⟨(some 20), .plain (.move (.tmp 79)), []⟩,
          ⟨(some 21), .plain (.move (.tmp 80)), []⟩])
      (.seq (.region [⟨(some 81), .plain (.move (.tmp 21)), []⟩,
          ⟨(some 82), .plain (.bin .neq (.tmp 81) (.const (.int .i64 (0)))), []⟩,
          ⟨(some 83), .plain (.move (.tmp 82)), []⟩,
          ⟨(some 84), .plain (.move (.tmp 19)), [(83, false)]⟩,
          ⟨(some 85), .plain (.move (.tmp 2)), [(83, false)]⟩,
          ⟨(some 86), .plain (.bin .neq (.tmp 84) (.tmp 85)), [(83, false)]⟩,
          ⟨(some 87), .plain (.pick (.tmp 83) (.const (.bool true)) (.tmp 86)), []⟩,
          ⟨(some 88), .plain (.move (.tmp 87)), []⟩,
          ⟨(some 89), .plain (.move (.tmp 20)), [(88, false)]⟩,
          ⟨(some 90), .plain (.move (.tmp 3)), [(88, false)]⟩,
          ⟨(some 91), .plain (.bin .neq (.tmp 89) (.tmp 90)), [(88, false)]⟩,
          ⟨(some 92), .plain (.pick (.tmp 88) (.const (.bool true)) (.tmp 91)), []⟩])
      (.cond (.tmp 92) (.seq (.region [⟨(some 8), .plain (.move (.const (.bool false))), []⟩])
        (.ret))
      (.skip))))
    (.skip)))
  (.seq (.region [⟨(some 93), .plain (.move (.tmp 14)), []⟩,
      ⟨(some 94), .plain (.bin .eql (.tmp 93) (.const (.int .i64 (0)))), []⟩,
      ⟨(some 95), .plain (.move (.tmp 2)), []⟩,
      ⟨(some 96), .plain (.bin .geq (.tmp 95) (.const (.int .i64 (0)))), []⟩,
      ⟨(some 97), .plain (.move (.tmp 96)), []⟩,
      ⟨(some 98), .plain (.move (.tmp 2)), [(97, true)]⟩,
      ⟨(some 99), .plain (.move (.tmp 9)), [(97, true)]⟩,
      ⟨(some 100), .call 12 [(.tmp 99)], [(97, true)]⟩,
      ⟨(some 101), .plain (.bin .leq (.tmp 98) (.tmp 100)), [(97, true)]⟩,
      ⟨(some 102), .plain (.pick (.tmp 97) (.tmp 101) (.const (.bool false))), []⟩,
      ⟨(some 103), .plain (.eqB false (.tmp 94) (.tmp 102)), []⟩,
      ⟨(some 104), .plain (.move (.tmp 103)), []⟩,
      ⟨(some 105), .call 10 [], [(104, true)]⟩,
      ⟨(some 106), .plain (.pick (.tmp 104) (.tmp 105) (.const (.bool false))), []⟩,
      ⟨(some 8), .plain (.move (.tmp 106)), []⟩])
  (.ret)))))))))⟩
theorem comp5 : compF Try.prog an5 Try.f5 = some ir5 := by kernel_rfl
theorem lps5 : loopsF Try.prog an5 Try.f5 = [] := by kernel_rfl
/-- noonmark/noonmarklaw03.RopeParts -/
def an6 : An := (.s .z (.s (.s .z (.s (.s .z .z) .z)) (.s .z (.s (.s .z (.s (.s .z .z) .z)) (.s .z (.s .z (.s .z (.s (.s .z (.s (.s .z .z) .z)) (.s .z (.s (.s .z (.b (.l 600 [10, 11, 20, 21] (.s (.s .z (.s .z .z)) (.s (.b (.s .z (.s (.s .z (.s (.s .z .z) .z)) (.s (.s .z (.s .z .z)) .z)))) .z))))) (.s .z .z)))))))))))
def lb600 : IC :=
  .seq (.seq (.region [⟨(some 87), .plain (.move (.tmp 21)), []⟩,
        ⟨(some 88), .plain (.move (.tmp 11)), []⟩,
        ⟨(some 89), .call 16 [(.tmp 88)], []⟩,
        ⟨(some 90), .plain (.bin .lss (.tmp 87) (.tmp 89)), []⟩])
    (.cond (.tmp 90) (.skip)
    (.exit 0)))
  (.seq (.block 1 (.seq (.region [⟨(some 94), .plain (.move (.tmp 11)), []⟩,
          ⟨(some 95), .plain (.move (.tmp 21)), []⟩,
          ⟨(some 96), .call 23 [(.tmp 94), (.tmp 95)], []⟩,
          ⟨(some 93), .plain (.move (.tmp 96)), []⟩,
          ⟨(some 97), .plain (.extract 0 (.tmp 93)), []⟩,
          ⟨(some 98), .plain (.extract 1 (.tmp 93)), []⟩,
          ⟨(some 22), .plain (.move (.tmp 97)), []⟩,
          ⟨(some 23), .plain (.move (.tmp 98)), []⟩])
      (.seq (.seq (.region [⟨(some 99), .plain (.move (.tmp 23)), []⟩,
            ⟨(some 100), .plain (.bin .neq (.tmp 99) (.const (.int .i64 (0)))), []⟩])
        (.cond (.tmp 100) (.seq (.region [⟨(some 10), .plain (.move (.const (.bool false))), []⟩])
          (.ret))
        (.skip)))
      (.seq (.seq (.region [⟨(some 101), .plain (.move (.tmp 21)), []⟩,
            ⟨(some 102), .plain (.bin .gtr (.tmp 101) (.const (.int .i64 (0)))), []⟩])
        (.cond (.tmp 102) (.region [⟨(some 103), .plain (.move (.tmp 20)), []⟩,
            ⟨(some 104), .plain (.bin .add (.tmp 103) (.const (.string ⟨#[10]⟩))), []⟩,
            ⟨(some 20), .plain (.move (.tmp 104)), []⟩])
        (.skip)))
      (.region [⟨(some 105), .plain (.move (.tmp 20)), []⟩,
        ⟨(some 106), .plain (.move (.tmp 22)), []⟩,
        ⟨(some 107), .plain (.bin .add (.tmp 105) (.tmp 106)), []⟩,
        ⟨(some 20), .plain (.move (.tmp 107)), []⟩])))))
  (.region [⟨(some 91), .plain (.move (.tmp 21)), []⟩,
    ⟨(some 92), .plain (.bin .add (.tmp 91) (.const (.int .i64 (1)))), []⟩,
    ⟨(some 21), .plain (.move (.tmp 92)), []⟩]))
def ir6 : IFun := ⟨115, [.tmp 10],
  .seq (.region [⟨(some 10), .plain (.move (.const (.bool false))), []⟩])
  (.seq (.seq (.region [⟨(some 24), .plain (.move (.tmp 0)), []⟩,
        ⟨(some 25), .plain (.move (.tmp 1)), []⟩,
        ⟨(some 26), .call 9 [(.tmp 24), (.tmp 25)], []⟩,
        ⟨(some 27), .plain (.un .not (.tmp 26)), []⟩,
        ⟨(some 28), .plain (.move (.tmp 27)), []⟩,
        ⟨(some 29), .plain (.move (.tmp 0)), [(28, false)]⟩,
        ⟨(some 30), .plain (.len true (.tmp 29)), [(28, false)]⟩,
        ⟨(some 31), .plain (.bin .gtr (.tmp 30) (.const (.int .i64 (2000)))), [(28, false)]⟩,
        ⟨(some 32), .plain (.pick (.tmp 28) (.const (.bool true)) (.tmp 31)), []⟩])
    (.cond (.tmp 32) (.seq (.region [⟨(some 33), .call 10 [], []⟩,
          ⟨(some 10), .plain (.move (.tmp 33)), []⟩])
      (.ret))
    (.skip)))
  (.seq (.region [⟨(some 35), .plain (.move (.tmp 0)), []⟩,
      ⟨(some 36), .plain (.move (.tmp 1)), []⟩,
      ⟨(some 37), .call 19 [(.tmp 35), (.tmp 36)], []⟩,
      ⟨(some 34), .plain (.move (.tmp 37)), []⟩,
      ⟨(some 38), .plain (.extract 0 (.tmp 34)), []⟩,
      ⟨(some 39), .plain (.extract 1 (.tmp 34)), []⟩,
      ⟨(some 40), .plain (.extract 2 (.tmp 34)), []⟩,
      ⟨(some 11), .plain (.move (.tmp 38)), []⟩,
      ⟨(some 12), .plain (.move (.tmp 39)), []⟩,
      ⟨(some 13), .plain (.move (.tmp 40)), []⟩])
  (.seq (.seq (.region [⟨(some 41), .plain (.move (.tmp 13)), []⟩,
        ⟨(some 42), .plain (.un .not (.tmp 41)), []⟩,
        ⟨(some 43), .plain (.move (.tmp 42)), []⟩,
        ⟨(some 44), .plain (.move (.tmp 11)), [(43, false)]⟩,
        ⟨(some 45), .call 16 [(.tmp 44)], [(43, false)]⟩,
        ⟨(some 46), .plain (.bin .gtr (.tmp 45) (.const (.int .i64 (500)))), [(43, false)]⟩,
        ⟨(some 47), .plain (.pick (.tmp 43) (.const (.bool true)) (.tmp 46)), []⟩])
    (.cond (.tmp 47) (.seq (.region [⟨(some 48), .call 10 [], []⟩,
          ⟨(some 10), .plain (.move (.tmp 48)), []⟩])
      (.ret))
    (.skip)))
  (.seq (.region [⟨(some 50), .plain (.move (.tmp 11)), []⟩,
      ⟨(some 51), .plain (.move (.tmp 2)), []⟩,
      ⟨(some 52), .plain (.move (.tmp 3)), []⟩,
      ⟨(some 53), .call 22 [(.tmp 50), (.tmp 51), (.tmp 52)], []⟩,
      ⟨(some 49), .plain (.move (.tmp 53)), []⟩,
      ⟨(some 54), .plain (.extract 0 (.tmp 49)), []⟩,
      ⟨(some 55), .plain (.extract 1 (.tmp 49)), []⟩,
      ⟨(some 14), .plain (.move (.tmp 54)), []⟩,
      ⟨(some 15), .plain (.move (.tmp 55)), []⟩])
  (.seq (.region [⟨(some 57), .plain (.move (.tmp 11)), []⟩,
      ⟨(some 58), .plain (.move (.tmp 3)), []⟩,
      ⟨(some 59), .plain (.move (.tmp 4)), []⟩,
      ⟨(some 60), .call 22 [(.tmp 57), (.tmp 58), (.tmp 59)], []⟩,
      ⟨(some 56), .plain (.move (.tmp 60)), []⟩,
      ⟨(some 61), .plain (.extract 0 (.tmp 56)), []⟩,
      ⟨(some 62), .plain (.extract 1 (.tmp 56)), []⟩,
      ⟨(some 16), .plain (.move (.tmp 61)), []⟩,
      ⟨(some 17), .plain (.move (.tmp 62)), []⟩])
  (.seq (.region [⟨(some 64), .plain (.move (.tmp 11)), []⟩,
      ⟨(some 65), .plain (.move (.tmp 2)), []⟩,
      ⟨(some 66), .plain (.move (.tmp 4)), []⟩,
      ⟨(some 67), .call 22 [(.tmp 64), (.tmp 65), (.tmp 66)], []⟩,
      ⟨(some 63), .plain (.move (.tmp 67)), []⟩,
      ⟨(some 68), .plain (.extract 0 (.tmp 63)), []⟩,
      ⟨(some 69), .plain (.extract 1 (.tmp 63)), []⟩,
      ⟨(some 18), .plain (.move (.tmp 68)), []⟩,
      ⟨(some 19), .plain (.move (.tmp 69)), []⟩])
  (.seq (.seq (.region [⟨(some 70), .plain (.move (.tmp 15)), []⟩,
        ⟨(some 71), .plain (.bin .eql (.tmp 70) (.const (.int .i64 (0)))), []⟩,
        ⟨(some 72), .plain (.move (.tmp 71)), []⟩,
        ⟨(some 73), .plain (.move (.tmp 17)), [(72, true)]⟩,
        ⟨(some 74), .plain (.bin .eql (.tmp 73) (.const (.int .i64 (0)))), [(72, true)]⟩,
        ⟨(some 75), .plain (.pick (.tmp 72) (.tmp 74) (.const (.bool false))), []⟩,
        ⟨(some 76), .plain (.move (.tmp 75)), []⟩,
        ⟨(some 77), .plain (.move (.tmp 19)), [(76, true)]⟩,
        ⟨(some 78), .plain (.bin .neq (.tmp 77) (.const (.int .i64 (0)))), [(76, true)]⟩,
        ⟨(some 79), .plain (.move (.tmp 78)), [(76, true)]⟩,
        ⟨(some 80), .plain (.move (.tmp 14)), [(76, true), (79, false)]⟩,
        ⟨(some 81), .plain (.move (.tmp 16)), [(76, true), (79, false)]⟩,
        ⟨(some 82), .plain (.bin .add (.tmp 80) (.tmp 81)), [(76, true), (79, false)]⟩,
        ⟨(some 83), .plain (.move (.tmp 18)), [(76, true), (79, false)]⟩,
        ⟨(some 84), .plain (.bin .neq (.tmp 82) (.tmp 83)), [(76, true), (79, false)]⟩,
        ⟨(some 85), .plain (.pick (.tmp 79) (.const (.bool true)) (.tmp 84)), [(76, true)]⟩,
        ⟨(some 86), .plain (.pick (.tmp 76) (.tmp 85) (.const (.bool false))), []⟩])
    (.cond (.tmp 86) (.seq (.region [⟨(some 10), .plain (.move (.const (.bool false))), []⟩])
      (.ret))
    (.skip)))
  (.seq (.region [⟨(some 20), .plain (.move (.const (.string ⟨#[]⟩))), []⟩])
  (.seq (.seq (.region [⟨(some 21), .plain (.move (.const (.int .i64 (0)))), []⟩])
    (.block 0 (.loop 600 [10, 11, 20, 21])))
  (.seq (.region [⟨(some 108), .plain (.move (.tmp 20)), []⟩,
      ⟨(some 109), .plain (.move (.tmp 11)), []⟩,
      ⟨(some 110), .call 15 [(.tmp 109)], []⟩,
      ⟨(some 111), .plain (.bin .eql (.tmp 108) (.tmp 110)), []⟩,
      ⟨(some 112), .plain (.move (.tmp 111)), []⟩,
      ⟨(some 113), .call 10 [], [(112, true)]⟩,
      ⟨(some 114), .plain (.pick (.tmp 112) (.tmp 113) (.const (.bool false))), []⟩,
      ⟨(some 10), .plain (.move (.tmp 114)), []⟩])
  (.ret)))))))))))⟩
theorem comp6 : compF Try.prog an6 Try.f6 = some ir6 := by kernel_rfl
theorem lps6 : loopsF Try.prog an6 Try.f6 = [(600, [10, 11, 20, 21], some lb600)] := by kernel_rfl
/-- noonmark/noonmarklaw03.RopeKeeps -/
def an7 : An := (.s .z (.s (.s .z (.s (.s .z .z) .z)) (.s .z (.s (.s .z (.b (.l 700 [0, 1, 5, 7] (.s (.s .z (.s .z .z)) (.s (.b .z) .z))))) (.s .z (.s .z (.s .z (.s .z .z))))))))
def lb700 : IC :=
  .seq (.seq (.region [⟨(some 28), .plain (.move (.tmp 7)), []⟩,
        ⟨(some 29), .plain (.move (.tmp 1)), []⟩,
        ⟨(some 30), .plain (.len false (.tmp 29)), []⟩,
        ⟨(some 31), .plain (.bin .lss (.tmp 28) (.tmp 30)), []⟩])
    (.cond (.tmp 31) (.skip)
    (.exit 0)))
  (.seq (.block 1 (.draws [(⟨(some 34), .plain (.move (.tmp 5)), []⟩, [5], .pure),
        (⟨(some 35), .plain (.move (.tmp 1)), []⟩, [1], .pure),
        (⟨(some 36), .plain (.move (.tmp 7)), []⟩, [7], .pure),
        (⟨(some 37), .plain (.idx 3 (.tmp 35) (.tmp 36)), []⟩, [35, 36], .pure),
        (⟨(some 38), .plain (.fieldAddr 0 (.tmp 37)), []⟩, [37], .pure),
        (⟨(some 39), .plain (.load 1 false (.tmp 38)), []⟩, [38], .peek),
        (⟨(some 40), .plain (.move (.tmp 1)), []⟩, [1], .pure),
        (⟨(some 41), .plain (.move (.tmp 7)), []⟩, [7], .pure),
        (⟨(some 42), .plain (.idx 3 (.tmp 40) (.tmp 41)), []⟩, [40, 41], .pure),
        (⟨(some 43), .plain (.fieldAddr 1 (.tmp 42)), []⟩, [42], .pure),
        (⟨(some 44), .plain (.load 1 false (.tmp 43)), []⟩, [43], .peek),
        (⟨(some 45), .plain (.move (.tmp 1)), []⟩, [1], .pure),
        (⟨(some 46), .plain (.move (.tmp 7)), []⟩, [7], .pure),
        (⟨(some 47), .plain (.idx 3 (.tmp 45) (.tmp 46)), []⟩, [45, 46], .pure),
        (⟨(some 48), .plain (.fieldAddr 2 (.tmp 47)), []⟩, [47], .pure),
        (⟨(some 49), .plain (.load 1 false (.tmp 48)), []⟩, [48], .peek),
        (⟨(some 50), .call 13 [(.tmp 34), (.tmp 39), (.tmp 44), (.tmp 49)], []⟩, [34, 39, 44, 49], .lone true [])]))
  (.region [⟨(some 32), .plain (.move (.tmp 7)), []⟩,
    ⟨(some 33), .plain (.bin .add (.tmp 32) (.const (.int .i64 (1)))), []⟩,
    ⟨(some 7), .plain (.move (.tmp 33)), []⟩]))
def ir7 : IFun := ⟨105, [.tmp 4],
  .seq (.region [⟨(some 4), .plain (.move (.const (.bool false))), []⟩])
  (.seq (.seq (.region [⟨(some 13), .plain (.move (.tmp 0)), []⟩,
        ⟨(some 14), .plain (.move (.tmp 1)), []⟩,
        ⟨(some 15), .call 9 [(.tmp 13), (.tmp 14)], []⟩,
        ⟨(some 16), .plain (.un .not (.tmp 15)), []⟩,
        ⟨(some 17), .plain (.move (.tmp 16)), []⟩,
        ⟨(some 18), .plain (.move (.tmp 0)), [(17, false)]⟩,
        ⟨(some 19), .plain (.len true (.tmp 18)), [(17, false)]⟩,
        ⟨(some 20), .plain (.bin .gtr (.tmp 19) (.const (.int .i64 (20000)))), [(17, false)]⟩,
        ⟨(some 21), .plain (.pick (.tmp 17) (.const (.bool true)) (.tmp 20)), []⟩])
    (.cond (.tmp 21) (.seq (.region [⟨(some 22), .call 10 [], []⟩,
          ⟨(some 4), .plain (.move (.tmp 22)), []⟩])
      (.ret))
    (.skip)))
  (.seq (.region [⟨(some 24), .plain (.move (.tmp 0)), []⟩,
      ⟨(some 25), .call 11 [(.tmp 24)], []⟩,
      ⟨(some 23), .plain (.move (.tmp 25)), []⟩,
      ⟨(some 26), .plain (.extract 0 (.tmp 23)), []⟩,
      ⟨(some 27), .plain (.extract 1 (.tmp 23)), []⟩,
      ⟨(some 5), .plain (.move (.tmp 26)), []⟩,
      ⟨(some 6), .plain (.move (.tmp 27)), []⟩])
  (.seq (.seq (.region [⟨(some 7), .plain (.move (.const (.int .i64 (0)))), []⟩])
    (.block 0 (.loop 700 [0, 1, 5, 7])))
  (.seq (.region [⟨(some 8), .plain (.move (.const (.pointer none))), []⟩])
  (.seq (.region [⟨(some 52), .plain (.move (.tmp 8)), []⟩,
      ⟨(some 53), .call 13 [(.tmp 52), (.const (.int .i64 (0))), (.const (.int .i64 (0))), (.const (.string ⟨#[97]⟩))], []⟩,
      ⟨(some 51), .plain (.move (.tmp 53)), []⟩,
      ⟨(some 54), .plain (.extract 0 (.tmp 51)), []⟩,
      ⟨(some 55), .plain (.extract 1 (.tmp 51)), []⟩,
      ⟨(some 9), .plain (.move (.tmp 54)), []⟩,
      ⟨(some 10), .plain (.move (.tmp 55)), []⟩])
  (.seq (.region [⟨(some 57), .plain (.move (.tmp 8)), []⟩,
      ⟨(some 58), .call 23 [(.tmp 57), (.const (.int .i64 (0)))], []⟩,
      ⟨(some 56), .plain (.move (.tmp 58)), []⟩,
      ⟨(some 59), .plain (.extract 0 (.tmp 56)), []⟩,
      ⟨(some 60), .plain (.extract 1 (.tmp 56)), []⟩,
      ⟨(some 11), .plain (.move (.tmp 59)), []⟩,
      ⟨(some 12), .plain (.move (.tmp 60)), []⟩])
  (.seq (.region [⟨(some 61), .plain (.move (.tmp 5)), []⟩,
      ⟨(some 62), .call 15 [(.tmp 61)], []⟩,
      ⟨(some 63), .plain (.move (.tmp 0)), []⟩,
      ⟨(some 64), .plain (.bin .eql (.tmp 62) (.tmp 63)), []⟩,
      ⟨(some 65), .plain (.move (.tmp 64)), []⟩,
      ⟨(some 66), .plain (.move (.tmp 8)), [(65, true)]⟩,
      ⟨(some 67), .call 15 [(.tmp 66)], [(65, true)]⟩,
      ⟨(some 68), .plain (.bin .eql (.tmp 67) (.const (.string ⟨#[]⟩))), [(65, true)]⟩,
      ⟨(some 69), .plain (.pick (.tmp 65) (.tmp 68) (.const (.bool false))), []⟩,
      ⟨(some 70), .plain (.move (.tmp 69)), []⟩,
      ⟨(some 71), .plain (.move (.tmp 8)), [(70, true)]⟩,
      ⟨(some 72), .call 12 [(.tmp 71)], [(70, true)]⟩,
      ⟨(some 73), .plain (.bin .eql (.tmp 72) (.const (.int .i64 (0)))), [(70, true)]⟩,
      ⟨(some 74), .plain (.pick (.tmp 70) (.tmp 73) (.const (.bool false))), []⟩,
      ⟨(some 75), .plain (.move (.tmp 74)), []⟩,
      ⟨(some 76), .plain (.move (.tmp 8)), [(75, true)]⟩,
      ⟨(some 77), .call 16 [(.tmp 76)], [(75, true)]⟩,
      ⟨(some 78), .plain (.bin .eql (.tmp 77) (.const (.int .i64 (1)))), [(75, true)]⟩,
      ⟨(some 79), .plain (.pick (.tmp 75) (.tmp 78) (.const (.bool false))), []⟩,
      ⟨(some 80), .plain (.move (.tmp 79)), []⟩,
      ⟨(some 81), .plain (.move (.tmp 8)), [(80, true)]⟩,
      ⟨(some 82), .call 18 [(.tmp 81)], [(80, true)]⟩,
      ⟨(some 83), .plain (.bin .eql (.tmp 82) (.const (.int .i64 (0)))), [(80, true)]⟩,
      ⟨(some 84), .plain (.pick (.tmp 80) (.tmp 83) (.const (.bool false))), []⟩,
      ⟨(some 85), .plain (.move (.tmp 84)), []⟩,
      ⟨(some 86), .plain (.move (.tmp 9)), [(85, true)]⟩,
      ⟨(some 87), .call 15 [(.tmp 86)], [(85, true)]⟩,
      ⟨(some 88), .plain (.bin .eql (.tmp 87) (.const (.string ⟨#[97]⟩))), [(85, true)]⟩,
      ⟨(some 89), .plain (.pick (.tmp 85) (.tmp 88) (.const (.bool false))), []⟩,
      ⟨(some 90), .plain (.move (.tmp 89)), []⟩,
      ⟨(some 91), .plain (.move (.tmp 10)), [(90, true)]⟩,
      ⟨(some 92), .plain (.bin .eql (.tmp 91) (.const (.int .i64 (0)))), [(90, true)]⟩,
      ⟨(some 93), .plain (.pick (.tmp 90) (.tmp 92) (.const (.bool false))), []⟩,
      ⟨(some 94), .plain (.move (.tmp 93)), []⟩,
      ⟨(some 95), .plain (.move (.tmp 11)), [(94, true)]⟩,
      ⟨(some 96), .plain (.bin .eql (.tmp 95) (.const (.string ⟨#[]⟩))), [(94, true)]⟩,
      ⟨(some 97), .plain (.pick (.tmp 94) (.tmp 96) (.const (.bool false))), []⟩,
      ⟨(some 98), .plain (.move (.tmp 97)), []⟩,
      ⟨(some 99), .plain (.move (.tmp 12)), [(98, true)]⟩,
      ⟨(some 100), .plain (.bin .eql (.tmp 99) (.const (.int .i64 (0)))), [(98, true)]⟩,
      ⟨(some 101), .plain (.pick (.tmp 98) (.tmp 100) (.const (.bool false))), []⟩,
      ⟨(some 102), .plain (.move (.tmp 101)), []⟩,
      ⟨(some 103), .call 10 [], [(102, true)]⟩,
      ⟨(some 104), .plain (.pick (.tmp 102) (.tmp 103) (.const (.bool false))), []⟩,
      ⟨(some 4), .plain (.move (.tmp 104)), []⟩])
  (.ret))))))))⟩
theorem comp7 : compF Try.prog an7 Try.f7 = some ir7 := by kernel_rfl
theorem lps7 : loopsF Try.prog an7 Try.f7 = [(700, [0, 1, 5, 7], some lb700)] := by kernel_rfl
/-- noonmark/noonmarklaw03.RopePlaces -/
def an8 : An := (.s .z (.s (.s .z (.s (.s .z .z) .z)) (.s .z (.s (.s .z (.s (.s .z .z) .z)) (.s .z (.s .z (.s .z (.s .z (.s .z (.s .z (.s (.s .z (.s (.s .z .z) .z)) (.s .z (.s .z (.s (.s .z (.s (.s .z .z) .z)) (.s .z .z)))))))))))))))
def ir8 : IFun := ⟨162, [.tmp 8],
  .seq (.region [⟨(some 8), .plain (.move (.const (.bool false))), []⟩])
  (.seq (.seq (.region [⟨(some 29), .plain (.move (.tmp 0)), []⟩,
        ⟨(some 30), .plain (.move (.tmp 1)), []⟩,
        ⟨(some 31), .call 9 [(.tmp 29), (.tmp 30)], []⟩,
        ⟨(some 32), .plain (.un .not (.tmp 31)), []⟩,
        ⟨(some 33), .plain (.move (.tmp 32)), []⟩,
        ⟨(some 34), .plain (.move (.tmp 0)), [(33, false)]⟩,
        ⟨(some 35), .plain (.len true (.tmp 34)), [(33, false)]⟩,
        ⟨(some 36), .plain (.bin .gtr (.tmp 35) (.const (.int .i64 (2000)))), [(33, false)]⟩,
        ⟨(some 37), .plain (.pick (.tmp 33) (.const (.bool true)) (.tmp 36)), []⟩])
    (.cond (.tmp 37) (.seq (.region [⟨(some 38), .call 10 [], []⟩,
          ⟨(some 8), .plain (.move (.tmp 38)), []⟩])
      (.ret))
    (.skip)))
  (.seq (.region [⟨(some 40), .plain (.move (.tmp 0)), []⟩,
      ⟨(some 41), .plain (.move (.tmp 1)), []⟩,
      ⟨(some 42), .call 19 [(.tmp 40), (.tmp 41)], []⟩,
      ⟨(some 39), .plain (.move (.tmp 42)), []⟩,
      ⟨(some 43), .plain (.extract 0 (.tmp 39)), []⟩,
      ⟨(some 44), .plain (.extract 1 (.tmp 39)), []⟩,
      ⟨(some 45), .plain (.extract 2 (.tmp 39)), []⟩,
      ⟨(some 9), .plain (.move (.tmp 43)), []⟩,
      ⟨(some 10), .plain (.move (.tmp 44)), []⟩,
      ⟨(some 11), .plain (.move (.tmp 45)), []⟩])
  (.seq (.seq (.region [⟨(some 46), .plain (.move (.tmp 11)), []⟩,
        ⟨(some 47), .plain (.un .not (.tmp 46)), []⟩])
    (.cond (.tmp 47) (.seq (.region [⟨(some 48), .call 10 [], []⟩,
          ⟨(some 8), .plain (.move (.tmp 48)), []⟩])
      (.ret))
    (.skip)))
  (.seq (.region [⟨(some 50), .plain (.move (.tmp 9)), []⟩,
      ⟨(some 51), .plain (.move (.tmp 2)), []⟩,
      ⟨(some 52), .plain (.move (.tmp 3)), []⟩,
      ⟨(some 53), .call 22 [(.tmp 50), (.tmp 51), (.tmp 52)], []⟩,
      ⟨(some 49), .plain (.move (.tmp 53)), []⟩,
      ⟨(some 54), .plain (.extract 0 (.tmp 49)), []⟩,
      ⟨(some 55), .plain (.extract 1 (.tmp 49)), []⟩,
      ⟨(some 12), .plain (.move (.tmp 54)), []⟩,
      ⟨(some 13), .plain (.move (.tmp 55)), []⟩])
  (.seq (.region [⟨(some 57), .plain (.move (.tmp 10)), []⟩,
      ⟨(some 58), .plain (.move (.tmp 2)), []⟩,
      ⟨(some 59), .plain (.move (.tmp 3)), []⟩,
      ⟨(some 60), .call 24 [(.tmp 57), (.tmp 58), (.tmp 59)], []⟩,
      ⟨(some 56), .plain (.move (.tmp 60)), []⟩,
      ⟨(some 61), .plain (.extract 0 (.tmp 56)), []⟩,
      ⟨(some 62), .plain (.extract 1 (.tmp 56)), []⟩,
      ⟨(some 14), .plain (.move (.tmp 61)), []⟩,
      ⟨(some 15), .plain (.move (.tmp 62)), []⟩])
  (.seq (.region [⟨(some 64), .plain (.move (.tmp 9)), []⟩,
      ⟨(some 65), .plain (.move (.tmp 2)), []⟩,
      ⟨(some 66), .plain (.move (.tmp 3)), []⟩,
      ⟨(some 67), .call 21 [(.tmp 64), (.tmp 65), (.tmp 66)], []⟩,
      ⟨(some 63), .plain (.move (.tmp 67)), []⟩,
      ⟨(some 68), .plain (.extract 0 (.tmp 63)), []⟩,
      ⟨(some 69), .plain (.extract 1 (.tmp 63)), []⟩,
      ⟨(some 16), .plain (.move (.tmp 68)), []⟩,
      ⟨(some 17), .plain (.move (.tmp 69)), []⟩])
  (.seq (.region [⟨(some 71), .plain (.move (.tmp 10)), []⟩,
      ⟨(some 72), .plain (.move (.tmp 2)), []⟩,
      ⟨(some 73), .plain (.move (.tmp 3)), []⟩,
      ⟨(some 74), .call 25 [(.tmp 71), (.tmp 72), (.tmp 73)], []⟩,
      ⟨(some 70), .plain (.move (.tmp 74)), []⟩,
      ⟨(some 75), .plain (.extract 0 (.tmp 70)), []⟩,
      ⟨(some 76), .plain (.extract 1 (.tmp 70)), []⟩,
      ⟨(some 18), .plain (.move (.tmp 75)), []⟩,
      ⟨(some 19), .plain (.move (.tmp 76)), []⟩])
  (.seq (.region [⟨(some 78), .plain (.move (.tmp 9)), []⟩,
      ⟨(some 79), .plain (.move (.tmp 2)), []⟩,
      ⟨(some 80), .call 20 [(.tmp 78), (.tmp 79)], []⟩,
      ⟨(some 77), .plain (.move (.tmp 80)), []⟩,
      ⟨(some 81), .plain (.extract 0 (.tmp 77)), []⟩,
      ⟨(some 82), .plain (.extract 1 (.tmp 77)), []⟩,
      ⟨(some 83), .plain (.extract 2 (.tmp 77)), []⟩,
      ⟨(some 20), .plain (.move (.tmp 81)), []⟩,
      ⟨(some 21), .plain (.move (.tmp 82)), []⟩,
      ⟨(some 22), .plain (.move (.tmp 83)), []⟩])
  (.seq (.region [⟨(some 85), .plain (.move (.tmp 10)), []⟩,
      ⟨(some 86), .plain (.move (.tmp 2)), []⟩,
      ⟨(some 87), .call 26 [(.tmp 85), (.tmp 86)], []⟩,
      ⟨(some 84), .plain (.move (.tmp 87)), []⟩,
      ⟨(some 88), .plain (.extract 0 (.tmp 84)), []⟩,
      ⟨(some 89), .plain (.extract 1 (.tmp 84)), []⟩,
      ⟨(some 90), .plain (.extract 2 (.tmp 84)), []⟩,
      ⟨(some 23), .plain (.move (.tmp 88)), []⟩,
      ⟨(some 24), .plain (.move (.tmp 89)), []⟩,
      ⟨(some 25), .plain (.move (.tmp 90)), []⟩])
  (.seq (.seq (.region [⟨(some 91), .plain (.move (.tmp 12)), []⟩,
        ⟨(some 92), .plain (.move (.tmp 14)), []⟩,
        ⟨(some 93), .plain (.bin .neq (.tmp 91) (.tmp 92)), []⟩,
        ⟨(some 94), .plain (.move (.tmp 93)), []⟩,
        ⟨(some 95), .plain (.move (.tmp 13)), [(94, false)]⟩,
        ⟨(some 96), .plain (.move (.tmp 15)), [(94, false)]⟩,
        ⟨(some 97), .plain (.bin .neq (.tmp 95) (.tmp 96)), [(94, false)]⟩,
        ⟨(some 98), .plain (.pick (.tmp 94) (.const (.bool true)) (.tmp 97)), []⟩,
        ⟨(some 99), .plain (.move (.tmp 98)), []⟩,
        ⟨(some 100), .plain (.move (.tmp 16)), [(99, false)]⟩,
        ⟨(some 101), .plain (.move (.tmp 18)), [(99, false)]⟩,
        ⟨(some 102), .plain (.bin .neq (.tmp 100) (.tmp 101)), [(99, false)]⟩,
        ⟨(some 103), .plain (.pick (.tmp 99) (.const (.bool true)) (.tmp 102)), []⟩,
        ⟨(some 104), .plain (.move (.tmp 103)), []⟩,
        ⟨(some 105), .plain (.move (.tmp 17)), [(104, false)]⟩,
        ⟨(some 106), .plain (.move (.tmp 19)), [(104, false)]⟩,
        ⟨(some 107), .plain (.bin .neq (.tmp 105) (.tmp 106)), [(104, false)]⟩,
        ⟨(some 108), .plain (.pick (.tmp 104) (.const (.bool true)) (.tmp 107)), []⟩,
        ⟨(some 109), .plain (.move (.tmp 108)), []⟩,
        ⟨(some 110), .plain (.move (.tmp 20)), [(109, false)]⟩,
        ⟨(some 111), .plain (.move (.tmp 23)), [(109, false)]⟩,
        ⟨(some 112), .plain (.bin .neq (.tmp 110) (.tmp 111)), [(109, false)]⟩,
        ⟨(some 113), .plain (.pick (.tmp 109) (.const (.bool true)) (.tmp 112)), []⟩,
        ⟨(some 114), .plain (.move (.tmp 113)), []⟩,
        ⟨(some 115), .plain (.move (.tmp 21)), [(114, false)]⟩,
        ⟨(some 116), .plain (.move (.tmp 24)), [(114, false)]⟩,
        ⟨(some 117), .plain (.bin .neq (.tmp 115) (.tmp 116)), [(114, false)]⟩,
        ⟨(some 118), .plain (.pick (.tmp 114) (.const (.bool true)) (.tmp 117)), []⟩,
        ⟨(some 119), .plain (.move (.tmp 118)), []⟩,
        ⟨(some 120), .plain (.move (.tmp 22)), [(119, false)]⟩,
        ⟨(some 121), .plain (.move (.tmp 25)), [(119, false)]⟩,
        ⟨(some 122), .plain (.bin .neq (.tmp 120) (.tmp 121)), [(119, false)]⟩,
        ⟨(some 123), .plain (.pick (.tmp 119) (.const (.bool true)) (.tmp 122)), []⟩])
    (.cond (.tmp 123) (.seq (.region [⟨(some 8), .plain (.move (.const (.bool false))), []⟩])
      (.ret))
    (.skip)))
  (.seq (.region [⟨(some 124), .plain (.move (.tmp 10)), []⟩,
      ⟨(some 125), .call 17 [(.tmp 124)], []⟩,
      ⟨(some 26), .plain (.move (.tmp 125)), []⟩])
  (.seq (.region [⟨(some 127), .plain (.move (.tmp 9)), []⟩,
      ⟨(some 128), .plain (.move (.tmp 2)), []⟩,
      ⟨(some 129), .call 23 [(.tmp 127), (.tmp 128)], []⟩,
      ⟨(some 126), .plain (.move (.tmp 129)), []⟩,
      ⟨(some 130), .plain (.extract 0 (.tmp 126)), []⟩,
      ⟨(some 131), .plain (.extract 1 (.tmp 126)), []⟩,
      ⟨(some 27), .plain (.move (.tmp 130)), []⟩,
      ⟨(some 28), .plain (.move (.tmp 131)), []⟩])
  (.seq (.seq (.region [⟨(some 132), .plain (.move (.tmp 2)), []⟩,
        ⟨(some 133), .plain (.bin .lss (.tmp 132) (.const (.int .i64 (0)))), []⟩,
        ⟨(some 134), .plain (.move (.tmp 133)), []⟩,
        ⟨(some 135), .plain (.move (.tmp 2)), [(134, false)]⟩,
        ⟨(some 136), .plain (.move (.tmp 26)), [(134, false)]⟩,
        ⟨(some 137), .plain (.len false (.tmp 136)), [(134, false)]⟩,
        ⟨(some 138), .plain (.bin .geq (.tmp 135) (.tmp 137)), [(134, false)]⟩,
        ⟨(some 139), .plain (.pick (.tmp 134) (.const (.bool true)) (.tmp 138)), []⟩])
    (.cond (.tmp 139) (.seq (.region [⟨(some 140), .plain (.move (.tmp 27)), []⟩,
          ⟨(some 141), .plain (.bin .eql (.tmp 140) (.const (.string ⟨#[]⟩))), []⟩,
          ⟨(some 142), .plain (.move (.tmp 141)), []⟩,
          ⟨(some 143), .plain (.move (.tmp 28)), [(142, true)]⟩,
          ⟨(some 144), .plain (.bin .eql (.tmp 143) (.const (.int .i64 (2)))), [(142, true)]⟩,
          ⟨(some 145), .plain (.pick (.tmp 142) (.tmp 144) (.const (.bool false))), []⟩,
          ⟨(some 146), .plain (.move (.tmp 145)), []⟩,
          ⟨(some 147), .call 10 [], [(146, true)]⟩,
          ⟨(some 148), .plain (.pick (.tmp 146) (.tmp 147) (.const (.bool false))), []⟩,
          ⟨(some 8), .plain (.move (.tmp 148)), []⟩])
      (.ret))
    (.skip)))
  (.seq (.region [⟨(some 149), .plain (.move (.tmp 27)), []⟩,
      ⟨(some 150), .plain (.move (.tmp 26)), []⟩,
      ⟨(some 151), .plain (.move (.tmp 2)), []⟩,
      ⟨(some 152), .plain (.idx 1 (.tmp 150) (.tmp 151)), []⟩,
      ⟨(some 153), .plain (.load 1 false (.tmp 152)), []⟩,
      ⟨(some 154), .plain (.bin .eql (.tmp 149) (.tmp 153)), []⟩,
      ⟨(some 155), .plain (.move (.tmp 154)), []⟩,
      ⟨(some 156), .plain (.move (.tmp 28)), [(155, true)]⟩,
      ⟨(some 157), .plain (.bin .eql (.tmp 156) (.const (.int .i64 (0)))), [(155, true)]⟩,
      ⟨(some 158), .plain (.pick (.tmp 155) (.tmp 157) (.const (.bool false))), []⟩,
      ⟨(some 159), .plain (.move (.tmp 158)), []⟩,
      ⟨(some 160), .call 10 [], [(159, true)]⟩,
      ⟨(some 161), .plain (.pick (.tmp 159) (.tmp 160) (.const (.bool false))), []⟩,
      ⟨(some 8), .plain (.move (.tmp 161)), []⟩])
  (.ret)))))))))))))))⟩
theorem comp8 : compF Try.prog an8 Try.f8 = some ir8 := by kernel_rfl
theorem lps8 : loopsF Try.prog an8 Try.f8 = [] := by kernel_rfl
/-- noonmark/noonmarklaw03.light -/
def an9 : An := (.s .z (.s (.s .z (.s (.s .z .z) .z)) (.s (.s .z (.b (.l 900 [1, 4, 5] (.s (.s .z (.s .z .z)) (.s (.b (.s .z (.s (.s .z .z) .z))) .z))))) (.s .z .z))))
def lb900 : IC :=
  .seq (.seq (.region [⟨(some 14), .plain (.move (.tmp 5)), []⟩,
        ⟨(some 15), .plain (.move (.tmp 1)), []⟩,
        ⟨(some 16), .plain (.len false (.tmp 15)), []⟩,
        ⟨(some 17), .plain (.bin .lss (.tmp 14) (.tmp 16)), []⟩])
    (.cond (.tmp 17) (.skip)
    (.exit 0)))
  (.seq (.block 1 (.seq (.region [⟨(some 20), .plain (.move (.tmp 1)), []⟩,
          ⟨(some 21), .plain (.move (.tmp 5)), []⟩,
          ⟨(some 22), .plain (.idx 3 (.tmp 20) (.tmp 21)), []⟩,
          ⟨(some 23), .plain (.fieldAddr 2 (.tmp 22)), []⟩,
          ⟨(some 24), .plain (.load 1 false (.tmp 23)), []⟩,
          ⟨(some 25), .plain (.len true (.tmp 24)), []⟩,
          ⟨(some 26), .plain (.bin .gtr (.tmp 25) (.const (.int .i64 (20100)))), []⟩])
      (.cond (.tmp 26) (.seq (.region [⟨(some 4), .plain (.move (.const (.bool false))), []⟩])
        (.ret))
      (.skip))))
  (.region [⟨(some 18), .plain (.move (.tmp 5)), []⟩,
    ⟨(some 19), .plain (.bin .add (.tmp 18) (.const (.int .i64 (1)))), []⟩,
    ⟨(some 5), .plain (.move (.tmp 19)), []⟩]))
def ir9 : IFun := ⟨27, [.tmp 4],
  .seq (.region [⟨(some 4), .plain (.move (.const (.bool false))), []⟩])
  (.seq (.seq (.region [⟨(some 6), .plain (.move (.tmp 0)), []⟩,
        ⟨(some 7), .plain (.len true (.tmp 6)), []⟩,
        ⟨(some 8), .plain (.bin .gtr (.tmp 7) (.const (.int .i64 (20100)))), []⟩,
        ⟨(some 9), .plain (.move (.tmp 8)), []⟩,
        ⟨(some 10), .plain (.move (.tmp 1)), [(9, false)]⟩,
        ⟨(some 11), .plain (.len false (.tmp 10)), [(9, false)]⟩,
        ⟨(some 12), .plain (.bin .gtr (.tmp 11) (.const (.int .i64 (40)))), [(9, false)]⟩,
        ⟨(some 13), .plain (.pick (.tmp 9) (.const (.bool true)) (.tmp 12)), []⟩])
    (.cond (.tmp 13) (.seq (.region [⟨(some 4), .plain (.move (.const (.bool false))), []⟩])
      (.ret))
    (.skip)))
  (.seq (.seq (.region [⟨(some 5), .plain (.move (.const (.int .i64 (0)))), []⟩])
    (.block 0 (.loop 900 [1, 4, 5])))
  (.seq (.region [⟨(some 4), .plain (.move (.const (.bool true))), []⟩])
  (.ret))))⟩
theorem comp9 : compF Try.prog an9 Try.f9 = some ir9 := by kernel_rfl
theorem lps9 : loopsF Try.prog an9 Try.f9 = [(900, [1, 4, 5], some lb900)] := by kernel_rfl
/-- noonmark/noonmarklaw03.alive -/
def an10 : An := (.s .z (.s .z (.s .z (.s .z (.s .z .z)))))
def ir10 : IFun := ⟨50, [.tmp 0],
  .seq (.region [⟨(some 0), .plain (.move (.const (.bool false))), []⟩])
  (.seq (.region [⟨(some 8), .call 11 [(.const (.string ⟨#[97, 98, 10, 99, 100]⟩))], []⟩,
      ⟨(some 7), .plain (.move (.tmp 8)), []⟩,
      ⟨(some 9), .plain (.extract 0 (.tmp 7)), []⟩,
      ⟨(some 10), .plain (.extract 1 (.tmp 7)), []⟩,
      ⟨(some 1), .plain (.move (.tmp 9)), []⟩,
      ⟨(some 2), .plain (.move (.tmp 10)), []⟩])
  (.seq (.region [⟨(some 12), .plain (.move (.tmp 1)), []⟩,
      ⟨(some 13), .call 21 [(.tmp 12), (.const (.int .i64 (1))), (.const (.int .i64 (1)))], []⟩,
      ⟨(some 11), .plain (.move (.tmp 13)), []⟩,
      ⟨(some 14), .plain (.extract 0 (.tmp 11)), []⟩,
      ⟨(some 15), .plain (.extract 1 (.tmp 11)), []⟩,
      ⟨(some 3), .plain (.move (.tmp 14)), []⟩,
      ⟨(some 4), .plain (.move (.tmp 15)), []⟩])
  (.seq (.region [⟨(some 17), .plain (.move (.tmp 1)), []⟩,
      ⟨(some 18), .call 13 [(.tmp 17), (.const (.int .i64 (1))), (.const (.int .i64 (3))), (.const (.string ⟨#[120]⟩))], []⟩,
      ⟨(some 16), .plain (.move (.tmp 18)), []⟩,
      ⟨(some 19), .plain (.extract 0 (.tmp 16)), []⟩,
      ⟨(some 20), .plain (.extract 1 (.tmp 16)), []⟩,
      ⟨(some 5), .plain (.move (.tmp 19)), []⟩,
      ⟨(some 6), .plain (.move (.tmp 20)), []⟩])
  (.seq (.region [⟨(some 21), .plain (.move (.tmp 2)), []⟩,
      ⟨(some 22), .plain (.bin .eql (.tmp 21) (.const (.int .i64 (0)))), []⟩,
      ⟨(some 23), .plain (.move (.tmp 22)), []⟩,
      ⟨(some 24), .plain (.move (.tmp 4)), [(23, true)]⟩,
      ⟨(some 25), .plain (.bin .eql (.tmp 24) (.const (.int .i64 (0)))), [(23, true)]⟩,
      ⟨(some 26), .plain (.pick (.tmp 23) (.tmp 25) (.const (.bool false))), []⟩,
      ⟨(some 27), .plain (.move (.tmp 26)), []⟩,
      ⟨(some 28), .plain (.move (.tmp 6)), [(27, true)]⟩,
      ⟨(some 29), .plain (.bin .eql (.tmp 28) (.const (.int .i64 (0)))), [(27, true)]⟩,
      ⟨(some 30), .plain (.pick (.tmp 27) (.tmp 29) (.const (.bool false))), []⟩,
      ⟨(some 31), .plain (.move (.tmp 30)), []⟩,
      ⟨(some 32), .plain (.move (.tmp 3)), [(31, true)]⟩,
      ⟨(some 33), .plain (.bin .eql (.tmp 32) (.const (.int .i64 (4)))), [(31, true)]⟩,
      ⟨(some 34), .plain (.pick (.tmp 31) (.tmp 33) (.const (.bool false))), []⟩,
      ⟨(some 35), .plain (.move (.tmp 34)), []⟩,
      ⟨(some 36), .plain (.move (.tmp 5)), [(35, true)]⟩,
      ⟨(some 37), .call 15 [(.tmp 36)], [(35, true)]⟩,
      ⟨(some 38), .plain (.bin .eql (.tmp 37) (.const (.string ⟨#[97, 120, 99, 100]⟩))), [(35, true)]⟩,
      ⟨(some 39), .plain (.pick (.tmp 35) (.tmp 38) (.const (.bool false))), []⟩,
      ⟨(some 40), .plain (.move (.tmp 39)), []⟩,
      ⟨(some 41), .plain (.move (.tmp 1)), [(40, true)]⟩,
      ⟨(some 42), .call 15 [(.tmp 41)], [(40, true)]⟩,
      ⟨(some 43), .plain (.bin .eql (.tmp 42) (.const (.string ⟨#[97, 98, 10, 99, 100]⟩))), [(40, true)]⟩,
      ⟨(some 44), .plain (.pick (.tmp 40) (.tmp 43) (.const (.bool false))), []⟩,
      ⟨(some 45), .plain (.move (.tmp 44)), []⟩,
      ⟨(some 46), .plain (.move (.tmp 1)), [(45, true)]⟩,
      ⟨(some 47), .call 16 [(.tmp 46)], [(45, true)]⟩,
      ⟨(some 48), .plain (.bin .eql (.tmp 47) (.const (.int .i64 (2)))), [(45, true)]⟩,
      ⟨(some 49), .plain (.pick (.tmp 45) (.tmp 48) (.const (.bool false))), []⟩,
      ⟨(some 0), .plain (.move (.tmp 49)), []⟩])
  (.ret)))))⟩
theorem comp10 : compF Try.prog an10 Try.f10 = some ir10 := by kernel_rfl
theorem lps10 : loopsF Try.prog an10 Try.f10 = [] := by kernel_rfl
/-- noonmark/rope.Make -/
def an11 : An := (.s .z (.s (.s .z (.s (.s .z .z) .z)) (.s .z .z)))
def ir11 : IFun := ⟨9, [.tmp 2, .tmp 3],
  .seq (.region [⟨(some 2), .plain (.move (.const (.pointer none))), []⟩,
      ⟨(some 3), .plain (.move (.const (.int .i64 (0)))), []⟩])
  (.seq (.seq (.region [⟨(some 4), .plain (.move (.tmp 0)), []⟩,
        ⟨(some 5), .plain (.len true (.tmp 4)), []⟩,
        ⟨(some 6), .plain (.bin .gtr (.tmp 5) (.const (.int .i64 (20000)))), []⟩])
    (.cond (.tmp 6) (.seq (.region [⟨(some 2), .plain (.move (.const (.pointer none))), []⟩,
          ⟨(some 3), .plain (.move (.const (.int .i64 (17)))), []⟩])
      (.ret))
    (.skip)))
  (.seq (.region [⟨(some 7), .plain (.move (.tmp 0)), []⟩,
      ⟨(some 8), .call 27 [(.tmp 7)], []⟩,
      ⟨(some 2), .plain (.move (.tmp 8)), []⟩,
      ⟨(some 3), .plain (.move (.const (.int .i64 (0)))), []⟩])
  (.ret)))⟩
theorem comp11 : compF Try.prog an11 Try.f11 = some ir11 := by kernel_rfl
theorem lps11 : loopsF Try.prog an11 Try.f11 = [] := by kernel_rfl
/-- (*noonmark/rope.Rope).Len -/
def an12 : An := (.s .z (.s (.s .z (.s (.s .z .z) .z)) (.s .z .z)))
def ir12 : IFun := ⟨9, [.tmp 2],
  .seq (.region [⟨(some 2), .plain (.move (.const (.int .i64 (0)))), []⟩])
  (.seq (.seq (.region [⟨(some 3), .plain (.move (.tmp 0)), []⟩,
        ⟨(some 4), .plain (.isNil .ptr false (.tmp 3)), []⟩])
    (.cond (.tmp 4) (.seq (.region [⟨(some 2), .plain (.move (.const (.int .i64 (0)))), []⟩])
      (.ret))
    (.skip)))
  (.seq (.region [⟨(some 5), .plain (.move (.tmp 0)), []⟩,
      ⟨(some 6), .plain (.nilCheck (.tmp 5)), []⟩,
      ⟨(some 7), .plain (.fieldAddr 3 (.tmp 6)), []⟩,
      ⟨(some 8), .plain (.load 1 false (.tmp 7)), []⟩,
      ⟨(some 2), .plain (.move (.tmp 8)), []⟩])
  (.ret)))⟩
theorem comp12 : compF Try.prog an12 Try.f12 = some ir12 := by kernel_rfl
theorem lps12 : loopsF Try.prog an12 Try.f12 = [] := by kernel_rfl
/-- (*noonmark/rope.Rope).Splice -/
def an13 : An := (.s .z (.k [0, 1, 2, 3, 8, 9] (.b (.s .z (.s (.s .z .z) (.s (.s .z (.s .z .z)) (.s (.s .z .z) .z))))) (.s .z (.s .z (.s .z .z)))))
def ir13 : IFun := ⟨52, [.tmp 8, .tmp 9],
  .seq (.region [⟨(some 8), .plain (.move (.const (.pointer none))), []⟩,
      ⟨(some 9), .plain (.move (.const (.int .i64 (0)))), []⟩])
  (.cut [0, 1, 2, 3, 8, 9] (.block 0 (.seq (.region [⟨(some 15), .plain (.move (.tmp 0)), []⟩,
          ⟨(some 16), .plain (.move (.tmp 1)), []⟩,
          ⟨(some 17), .plain (.move (.tmp 2)), []⟩,
          ⟨(some 18), .call 28 [(.tmp 15), (.tmp 16), (.tmp 17)], []⟩,
          ⟨(some 19), .plain (.un .not (.tmp 18)), []⟩,
          ⟨(some 14), .plain (.move (.tmp 19)), []⟩])
      (.cond (.tmp 14) (.seq (.region [⟨(some 8), .plain (.move (.const (.pointer none))), []⟩,
            ⟨(some 9), .plain (.move (.const (.int .i64 (2)))), []⟩])
        (.ret))
      (.seq (.seq (.region [⟨(some 21), .plain (.move (.tmp 3)), []⟩,
              ⟨(some 22), .plain (.len true (.tmp 21)), []⟩,
              ⟨(some 23), .plain (.bin .gtr (.tmp 22) (.const (.int .i64 (20000)))), []⟩,
              ⟨(some 20), .plain (.move (.tmp 23)), []⟩])
          (.cond (.tmp 20) (.skip)
          (.region [⟨(some 24), .plain (.move (.tmp 0)), []⟩,
              ⟨(some 25), .call 12 [(.tmp 24)], []⟩,
              ⟨(some 26), .plain (.move (.tmp 2)), []⟩,
              ⟨(some 27), .plain (.move (.tmp 1)), []⟩,
              ⟨(some 28), .plain (.bin .sub (.tmp 26) (.tmp 27)), []⟩,
              ⟨(some 29), .plain (.bin .sub (.tmp 25) (.tmp 28)), []⟩,
              ⟨(some 30), .plain (.move (.tmp 3)), []⟩,
              ⟨(some 31), .plain (.len true (.tmp 30)), []⟩,
              ⟨(some 32), .plain (.bin .sub (.const (.int .i64 (20000))) (.tmp 31)), []⟩,
              ⟨(some 33), .plain (.bin .gtr (.tmp 29) (.tmp 32)), []⟩,
              ⟨(some 20), .plain (.move (.tmp 33)), []⟩])))
        (.cond (.tmp 20) (.seq (.region [⟨(some 8), .plain (.move (.const (.pointer none))), []⟩,
              ⟨(some 9), .plain (.move (.const (.int .i64 (17)))), []⟩])
          (.ret))
        (.skip))))))
  (.seq (.region [⟨(some 35), .plain (.move (.tmp 0)), []⟩,
      ⟨(some 36), .plain (.move (.tmp 1)), []⟩,
      ⟨(some 37), .call 29 [(.tmp 35), (.tmp 36)], []⟩,
      ⟨(some 34), .plain (.move (.tmp 37)), []⟩,
      ⟨(some 38), .plain (.extract 0 (.tmp 34)), []⟩,
      ⟨(some 39), .plain (.extract 1 (.tmp 34)), []⟩,
      ⟨(some 10), .plain (.move (.tmp 38)), []⟩,
      ⟨(some 11), .plain (.move (.tmp 39)), []⟩])
  (.seq (.region [⟨(some 41), .plain (.move (.tmp 0)), []⟩,
      ⟨(some 42), .plain (.move (.tmp 2)), []⟩,
      ⟨(some 43), .call 29 [(.tmp 41), (.tmp 42)], []⟩,
      ⟨(some 40), .plain (.move (.tmp 43)), []⟩,
      ⟨(some 44), .plain (.extract 0 (.tmp 40)), []⟩,
      ⟨(some 45), .plain (.extract 1 (.tmp 40)), []⟩,
      ⟨(some 12), .plain (.move (.tmp 44)), []⟩,
      ⟨(some 13), .plain (.move (.tmp 45)), []⟩])
  (.seq (.region [⟨(some 46), .plain (.move (.tmp 10)), []⟩,
      ⟨(some 47), .plain (.move (.tmp 3)), []⟩,
      ⟨(some 48), .call 27 [(.tmp 47)], []⟩,
      ⟨(some 49), .call 30 [(.tmp 46), (.tmp 48)], []⟩,
      ⟨(some 50), .plain (.move (.tmp 13)), []⟩,
      ⟨(some 51), .call 30 [(.tmp 49), (.tmp 50)], []⟩,
      ⟨(some 8), .plain (.move (.tmp 51)), []⟩,
      ⟨(some 9), .plain (.move (.const (.int .i64 (0)))), []⟩])
  (.ret)))))⟩
theorem comp13 : compF Try.prog an13 Try.f13 = some ir13 := by kernel_rfl
theorem lps13 : loopsF Try.prog an13 Try.f13 = [] := by kernel_rfl
/-- noonmark/noonmarkref03.Splice -/
def an14 : An := (.s .z (.s (.s .z (.s (.s .z .z) .z)) (.s (.s .z (.s (.s .z .z) .z)) (.s .z .z))))
def ir14 : IFun := ⟨47, [.tmp 8, .tmp 9],
  .seq (.region [⟨(some 8), .plain (.move (.const (.string ⟨#[]⟩))), []⟩,
      ⟨(some 9), .plain (.move (.const (.int .i64 (0)))), []⟩])
  (.seq (.seq (.region [⟨(some 10), .plain (.move (.tmp 1)), []⟩,
        ⟨(some 11), .plain (.bin .lss (.tmp 10) (.const (.int .i64 (0)))), []⟩,
        ⟨(some 12), .plain (.move (.tmp 11)), []⟩,
        ⟨(some 13), .plain (.move (.tmp 1)), [(12, false)]⟩,
        ⟨(some 14), .plain (.move (.tmp 2)), [(12, false)]⟩,
        ⟨(some 15), .plain (.bin .gtr (.tmp 13) (.tmp 14)), [(12, false)]⟩,
        ⟨(some 16), .plain (.pick (.tmp 12) (.const (.bool true)) (.tmp 15)), []⟩,
        ⟨(some 17), .plain (.move (.tmp 16)), []⟩,
        ⟨(some 18), .plain (.move (.tmp 2)), [(17, false)]⟩,
        ⟨(some 19), .plain (.move (.tmp 0)), [(17, false)]⟩,
        ⟨(some 20), .plain (.len true (.tmp 19)), [(17, false)]⟩,
        ⟨(some 21), .plain (.bin .gtr (.tmp 18) (.tmp 20)), [(17, false)]⟩,
        ⟨(some 22), .plain (.pick (.tmp 17) (.const (.bool true)) (.tmp 21)), []⟩])
    (.cond (.tmp 22) (.seq (.region [⟨(some 8), .plain (.move (.const (.string ⟨#[]⟩))), []⟩,
          ⟨(some 9), .plain (.move (.const (.int .i64 (2)))), []⟩])
      (.ret))
    (.skip)))
  (.seq (.seq (.region [⟨(some 23), .plain (.move (.tmp 3)), []⟩,
        ⟨(some 24), .plain (.len true (.tmp 23)), []⟩,
        ⟨(some 25), .plain (.bin .gtr (.tmp 24) (.const (.int .i64 (20000)))), []⟩,
        ⟨(some 26), .plain (.move (.tmp 25)), []⟩,
        ⟨(some 27), .plain (.move (.tmp 0)), [(26, false)]⟩,
        ⟨(some 28), .plain (.len true (.tmp 27)), [(26, false)]⟩,
        ⟨(some 29), .plain (.move (.tmp 2)), [(26, false)]⟩,
        ⟨(some 30), .plain (.move (.tmp 1)), [(26, false)]⟩,
        ⟨(some 31), .plain (.bin .sub (.tmp 29) (.tmp 30)), [(26, false)]⟩,
        ⟨(some 32), .plain (.bin .sub (.tmp 28) (.tmp 31)), [(26, false)]⟩,
        ⟨(some 33), .plain (.move (.tmp 3)), [(26, false)]⟩,
        ⟨(some 34), .plain (.len true (.tmp 33)), [(26, false)]⟩,
        ⟨(some 35), .plain (.bin .sub (.const (.int .i64 (20000))) (.tmp 34)), [(26, false)]⟩,
        ⟨(some 36), .plain (.bin .gtr (.tmp 32) (.tmp 35)), [(26, false)]⟩,
        ⟨(some 37), .plain (.pick (.tmp 26) (.const (.bool true)) (.tmp 36)), []⟩])
    (.cond (.tmp 37) (.seq (.region [⟨(some 8), .plain (.move (.const (.string ⟨#[]⟩))), []⟩,
          ⟨(some 9), .plain (.move (.const (.int .i64 (17)))), []⟩])
      (.ret))
    (.skip)))
  (.seq (.draws [(⟨(some 38), .plain (.move (.tmp 0)), []⟩, [0], .pure),
      (⟨(some 39), .plain (.move (.tmp 1)), []⟩, [1], .pure),
      (⟨(some 40), .plain (.cutStr (.tmp 38) none (some (.tmp 39))), []⟩, [38, 39], .pure),
      (⟨(some 41), .plain (.move (.tmp 3)), []⟩, [3], .pure),
      (⟨(some 42), .plain (.bin .add (.tmp 40) (.tmp 41)), []⟩, [40, 41], .pure),
      (⟨(some 43), .plain (.move (.tmp 0)), []⟩, [0], .pure),
      (⟨(some 44), .plain (.move (.tmp 2)), []⟩, [2], .pure),
      (⟨(some 45), .plain (.cutStr (.tmp 43) (some (.tmp 44)) none), []⟩, [43, 44], .pure),
      (⟨(some 46), .plain (.bin .add (.tmp 42) (.tmp 45)), []⟩, [42, 45], .pure),
      (⟨(some 8), .plain (.move (.tmp 46)), []⟩, [46], .pure),
      (⟨(some 9), .plain (.move (.const (.int .i64 (0)))), []⟩, [], .pure)])
  (.ret))))⟩
theorem comp14 : compF Try.prog an14 Try.f14 = some ir14 := by kernel_rfl
theorem lps14 : loopsF Try.prog an14 Try.f14 = [] := by kernel_rfl
/-- (*noonmark/rope.Rope).Text -/
def an15 : An := (.s .z (.s .z (.s .z (.s .z .z))))
def ir15 : IFun := ⟨7, [.tmp 2],
  .seq (.region [⟨(some 2), .plain (.move (.const (.string ⟨#[]⟩))), []⟩])
  (.seq (.region [⟨(some 3), .plain (.new 4294967357 [(.pointer none), (.slice none 0 0)]), []⟩])
  (.seq (.region [⟨(some 4), .plain (.move (.tmp 0)), []⟩,
      ⟨(some 5), .call 31 [(.tmp 4), (.tmp 3)], []⟩])
  (.seq (.region [⟨(some 6), .call 32 [(.tmp 3)], []⟩,
      ⟨(some 2), .plain (.move (.tmp 6)), []⟩])
  (.ret))))⟩
theorem comp15 : compF Try.prog an15 Try.f15 = some ir15 := by kernel_rfl
theorem lps15 : loopsF Try.prog an15 Try.f15 = [] := by kernel_rfl
/-- (*noonmark/rope.Rope).Lines -/
def an16 : An := (.s .z (.s .z .z))
def ir16 : IFun := ⟨6, [.tmp 2],
  .seq (.region [⟨(some 2), .plain (.move (.const (.int .i64 (0)))), []⟩])
  (.seq (.region [⟨(some 3), .plain (.move (.tmp 0)), []⟩,
      ⟨(some 4), .call 33 [(.tmp 3)], []⟩,
      ⟨(some 5), .plain (.bin .add (.tmp 4) (.const (.int .i64 (1)))), []⟩,
      ⟨(some 2), .plain (.move (.tmp 5)), []⟩])
  (.ret))⟩
theorem comp16 : compF Try.prog an16 Try.f16 = some ir16 := by kernel_rfl
theorem lps16 : loopsF Try.prog an16 Try.f16 = [] := by kernel_rfl
/-- noonmark/noonmarkref03.Lines -/
def an17 : An := (.s .z (.s .z (.s .z (.s (.s .z (.b (.l 1700 [0, 3, 4, 5] (.s (.s .z (.s .z .z)) (.s (.b (.s .z (.s (.s .z .z) .z))) .z))))) (.s .z .z)))))
def lb1700 : IC :=
  .seq (.seq (.region [⟨(some 7), .plain (.move (.tmp 5)), []⟩,
        ⟨(some 8), .plain (.move (.tmp 0)), []⟩,
        ⟨(some 9), .plain (.len true (.tmp 8)), []⟩,
        ⟨(some 10), .plain (.bin .lss (.tmp 7) (.tmp 9)), []⟩])
    (.cond (.tmp 10) (.skip)
    (.exit 0)))
  (.seq (.block 1 (.seq (.region [⟨(some 13), .plain (.move (.tmp 0)), []⟩,
          ⟨(some 14), .plain (.move (.tmp 5)), []⟩,
          ⟨(some 15), .plain (.byte (.tmp 13) (.tmp 14)), []⟩,
          ⟨(some 16), .plain (.bin .eql (.tmp 15) (.const (.int .u8 (10)))), []⟩])
      (.cond (.tmp 16) (.seq (.region [⟨(some 17), .plain (.move (.tmp 3)), []⟩,
            ⟨(some 18), .plain (.move (.tmp 0)), []⟩,
            ⟨(some 19), .plain (.move (.tmp 4)), []⟩,
            ⟨(some 20), .plain (.move (.tmp 5)), []⟩,
            ⟨(some 21), .plain (.cutStr (.tmp 18) (some (.tmp 19)) (some (.tmp 20))), []⟩,
            ⟨(some 22), .plain (.lit 1 1 [(.string ⟨#[]⟩)] [(0, (.tmp 21))]), []⟩,
            ⟨(some 23), .plain (.app false 1 16 (.tmp 17) (.tmp 22)), []⟩,
            ⟨(some 3), .plain (.move (.tmp 23)), []⟩])
        (.region [⟨(some 24), .plain (.move (.tmp 5)), []⟩,
          ⟨(some 25), .plain (.bin .add (.tmp 24) (.const (.int .i64 (1)))), []⟩,
          ⟨(some 4), .plain (.move (.tmp 25)), []⟩]))
      (.skip))))
  (.region [⟨(some 11), .plain (.move (.tmp 5)), []⟩,
    ⟨(some 12), .plain (.bin .add (.tmp 11) (.const (.int .i64 (1)))), []⟩,
    ⟨(some 5), .plain (.move (.tmp 12)), []⟩]))
def ir17 : IFun := ⟨32, [.tmp 2],
  .seq (.region [⟨(some 2), .plain (.move (.const (.slice none 0 0))), []⟩])
  (.seq (.region [⟨(some 6), .plain (.lit 1 0 [(.string ⟨#[]⟩)] []), []⟩,
      ⟨(some 3), .plain (.move (.tmp 6)), []⟩])
  (.seq (.region [⟨(some 4), .plain (.move (.const (.int .i64 (0)))), []⟩])
  (.seq (.seq (.region [⟨(some 5), .plain (.move (.const (.int .i64 (0)))), []⟩])
    (.block 0 (.loop 1700 [0, 3, 4, 5])))
  (.seq (.region [⟨(some 26), .plain (.move (.tmp 3)), []⟩,
      ⟨(some 27), .plain (.move (.tmp 0)), []⟩,
      ⟨(some 28), .plain (.move (.tmp 4)), []⟩,
      ⟨(some 29), .plain (.cutStr (.tmp 27) (some (.tmp 28)) none), []⟩,
      ⟨(some 30), .plain (.lit 1 1 [(.string ⟨#[]⟩)] [(0, (.tmp 29))]), []⟩,
      ⟨(some 31), .plain (.app false 1 16 (.tmp 26) (.tmp 30)), []⟩,
      ⟨(some 2), .plain (.move (.tmp 31)), []⟩])
  (.ret)))))⟩
theorem comp17 : compF Try.prog an17 Try.f17 = some ir17 := by kernel_rfl
theorem lps17 : loopsF Try.prog an17 Try.f17 = [(1700, [0, 3, 4, 5], some lb1700)] := by kernel_rfl
/-- (*noonmark/rope.Rope).Height -/
def an18 : An := (.s .z (.s (.s .z (.s (.s .z .z) .z)) (.s .z .z)))
def ir18 : IFun := ⟨9, [.tmp 2],
  .seq (.region [⟨(some 2), .plain (.move (.const (.int .i64 (0)))), []⟩])
  (.seq (.seq (.region [⟨(some 3), .plain (.move (.tmp 0)), []⟩,
        ⟨(some 4), .plain (.isNil .ptr false (.tmp 3)), []⟩])
    (.cond (.tmp 4) (.seq (.region [⟨(some 2), .plain (.move (.const (.int .i64 (0)))), []⟩])
      (.ret))
    (.skip)))
  (.seq (.region [⟨(some 5), .plain (.move (.tmp 0)), []⟩,
      ⟨(some 6), .plain (.nilCheck (.tmp 5)), []⟩,
      ⟨(some 7), .plain (.fieldAddr 5 (.tmp 6)), []⟩,
      ⟨(some 8), .plain (.load 1 false (.tmp 7)), []⟩,
      ⟨(some 2), .plain (.move (.tmp 8)), []⟩])
  (.ret)))⟩
theorem comp18 : compF Try.prog an18 Try.f18 = some ir18 := by kernel_rfl
theorem lps18 : loopsF Try.prog an18 Try.f18 = [] := by kernel_rfl
/-- noonmark/noonmarklaw03.play -/
def an19 : An := (.s .z (.s .z (.s (.s .z (.s (.s .z .z) .z)) (.s (.s .z (.b (.l 1900 [0, 1, 7, 9] (.s (.s .z (.s .z .z)) (.s (.b (.s .z (.s .z (.s .z (.s (.s .z .z) .z))))) .z))))) (.s .z .z)))))
def lb1900 : IC :=
  .seq (.seq (.region [⟨(some 21), .plain (.move (.tmp 9)), []⟩,
        ⟨(some 22), .plain (.move (.tmp 1)), []⟩,
        ⟨(some 23), .plain (.len false (.tmp 22)), []⟩,
        ⟨(some 24), .plain (.bin .lss (.tmp 21) (.tmp 23)), []⟩])
    (.cond (.tmp 24) (.skip)
    (.exit 0)))
  (.seq (.block 1 (.seq (.draws [(⟨(some 28), .plain (.move (.tmp 7)), []⟩, [7], .pure),
          (⟨(some 29), .plain (.move (.tmp 1)), []⟩, [1], .pure),
          (⟨(some 30), .plain (.move (.tmp 9)), []⟩, [9], .pure),
          (⟨(some 31), .plain (.idx 3 (.tmp 29) (.tmp 30)), []⟩, [29, 30], .pure),
          (⟨(some 32), .plain (.fieldAddr 0 (.tmp 31)), []⟩, [31], .pure),
          (⟨(some 33), .plain (.load 1 false (.tmp 32)), []⟩, [32], .peek),
          (⟨(some 34), .plain (.move (.tmp 1)), []⟩, [1], .pure),
          (⟨(some 35), .plain (.move (.tmp 9)), []⟩, [9], .pure),
          (⟨(some 36), .plain (.idx 3 (.tmp 34) (.tmp 35)), []⟩, [34, 35], .pure),
          (⟨(some 37), .plain (.fieldAddr 1 (.tmp 36)), []⟩, [36], .pure),
          (⟨(some 38), .plain (.load 1 false (.tmp 37)), []⟩, [37], .peek),
          (⟨(some 39), .plain (.move (.tmp 1)), []⟩, [1], .pure),
          (⟨(some 40), .plain (.move (.tmp 9)), []⟩, [9], .pure),
          (⟨(some 41), .plain (.idx 3 (.tmp 39) (.tmp 40)), []⟩, [39, 40], .pure),
          (⟨(some 42), .plain (.fieldAddr 2 (.tmp 41)), []⟩, [41], .pure),
          (⟨(some 43), .plain (.load 1 false (.tmp 42)), []⟩, [42], .peek),
          (⟨(some 44), .call 13 [(.tmp 28), (.tmp 33), (.tmp 38), (.tmp 43)], []⟩, [28, 33, 38, 43], .lone true []),
          (⟨(some 27), .plain (.move (.tmp 44)), []⟩, [44], .pure),
          (⟨(some 45), .plain (.extract 0 (.tmp 27)), []⟩, [27], .pure),
          (⟨(some 46), .plain (.extract 1 (.tmp 27)), []⟩, [27], .pure),
          (⟨(some 10), .plain (.move (.tmp 45)), []⟩, [45], .pure),
          (⟨(some 11), .plain (.move (.tmp 46)), []⟩, [46], .pure)])
      (.seq (.draws [(⟨(some 48), .plain (.move (.tmp 0)), []⟩, [0], .pure),
          (⟨(some 49), .plain (.move (.tmp 1)), []⟩, [1], .pure),
          (⟨(some 50), .plain (.move (.tmp 9)), []⟩, [9], .pure),
          (⟨(some 51), .plain (.idx 3 (.tmp 49) (.tmp 50)), []⟩, [49, 50], .pure),
          (⟨(some 52), .plain (.fieldAddr 0 (.tmp 51)), []⟩, [51], .pure),
          (⟨(some 53), .plain (.load 1 false (.tmp 52)), []⟩, [52], .peek),
          (⟨(some 54), .plain (.move (.tmp 1)), []⟩, [1], .pure),
          (⟨(some 55), .plain (.move (.tmp 9)), []⟩, [9], .pure),
          (⟨(some 56), .plain (.idx 3 (.tmp 54) (.tmp 55)), []⟩, [54, 55], .pure),
          (⟨(some 57), .plain (.fieldAddr 1 (.tmp 56)), []⟩, [56], .pure),
          (⟨(some 58), .plain (.load 1 false (.tmp 57)), []⟩, [57], .peek),
          (⟨(some 59), .plain (.move (.tmp 1)), []⟩, [1], .pure),
          (⟨(some 60), .plain (.move (.tmp 9)), []⟩, [9], .pure),
          (⟨(some 61), .plain (.idx 3 (.tmp 59) (.tmp 60)), []⟩, [59, 60], .pure),
          (⟨(some 62), .plain (.fieldAddr 2 (.tmp 61)), []⟩, [61], .pure),
          (⟨(some 63), .plain (.load 1 false (.tmp 62)), []⟩, [62], .peek),
          (⟨(some 64), .call 14 [(.tmp 48), (.tmp 53), (.tmp 58), (.tmp 63)], []⟩, [48, 53, 58, 63], .lone true []),
          (⟨(some 47), .plain (.move (.tmp 64)), []⟩, [64], .pure),
          (⟨(some 65), .plain (.extract 0 (.tmp 47)), []⟩, [47], .pure),
          (⟨(some 66), .plain (.extract 1 (.tmp 47)), []⟩, [47], .pure),
          (⟨(some 12), .plain (.move (.tmp 65)), []⟩, [65], .pure),
          (⟨(some 13), .plain (.move (.tmp 66)), []⟩, [66], .pure)])
      (.seq (.region [⟨(some 67), .plain (.move (.tmp 11)), []⟩,
          ⟨(some 68), .plain (.bin .eql (.tmp 67) (.const (.int .i64 (0)))), []⟩])
      (.cond (.tmp 68) (.seq (.region [⟨(some 69), .plain (.move (.tmp 10)), []⟩,
            ⟨(some 7), .plain (.move (.tmp 69)), []⟩])
        (.region [⟨(some 70), .plain (.move (.tmp 12)), []⟩,
          ⟨(some 0), .plain (.move (.tmp 70)), []⟩]))
      (.skip))))))
  (.region [⟨(some 25), .plain (.move (.tmp 9)), []⟩,
    ⟨(some 26), .plain (.bin .add (.tmp 25) (.const (.int .i64 (1)))), []⟩,
    ⟨(some 9), .plain (.move (.tmp 26)), []⟩]))
def ir19 : IFun := ⟨73, [.tmp 4, .tmp 5, .tmp 6],
  .seq (.region [⟨(some 4), .plain (.move (.const (.pointer none))), []⟩,
      ⟨(some 5), .plain (.move (.const (.string ⟨#[]⟩))), []⟩,
      ⟨(some 6), .plain (.move (.const (.bool false))), []⟩])
  (.seq (.region [⟨(some 15), .plain (.move (.tmp 0)), []⟩,
      ⟨(some 16), .call 11 [(.tmp 15)], []⟩,
      ⟨(some 14), .plain (.move (.tmp 16)), []⟩,
      ⟨(some 17), .plain (.extract 0 (.tmp 14)), []⟩,
      ⟨(some 18), .plain (.extract 1 (.tmp 14)), []⟩,
      ⟨(some 7), .plain (.move (.tmp 17)), []⟩,
      ⟨(some 8), .plain (.move (.tmp 18)), []⟩])
  (.seq (.seq (.region [⟨(some 19), .plain (.move (.tmp 8)), []⟩,
        ⟨(some 20), .plain (.bin .neq (.tmp 19) (.const (.int .i64 (0)))), []⟩])
    (.cond (.tmp 20) (.seq (.region [⟨(some 4), .plain (.move (.const (.pointer none))), []⟩,
          ⟨(some 5), .plain (.move (.const (.string ⟨#[]⟩))), []⟩,
          ⟨(some 6), .plain (.move (.const (.bool false))), []⟩])
      (.ret))
    (.skip)))
  (.seq (.seq (.region [⟨(some 9), .plain (.move (.const (.int .i64 (0)))), []⟩])
    (.block 0 (.loop 1900 [0, 1, 7, 9])))
  (.seq (.region [⟨(some 71), .plain (.move (.tmp 7)), []⟩,
      ⟨(some 72), .plain (.move (.tmp 0)), []⟩,
      ⟨(some 4), .plain (.move (.tmp 71)), []⟩,
      ⟨(some 5), .plain (.move (.tmp 72)), []⟩,
      ⟨(some 6), .plain (.move (.const (.bool true))), []⟩])
  (.ret)))))⟩
theorem comp19 : compF Try.prog an19 Try.f19 = some ir19 := by kernel_rfl
theorem lps19 : loopsF Try.prog an19 Try.f19 = [(1900, [0, 1, 7, 9], some lb1900)] := by kernel_rfl
/-- (*noonmark/rope.Rope).Place -/
def an20 : An := (.s .z (.s (.s .z (.s (.s .z .z) .z)) (.s .z (.s .z (.s (.s .z (.s .z .z)) (.s .z .z))))))
def ir20 : IFun := ⟨45, [.tmp 4, .tmp 5, .tmp 6],
  .seq (.region [⟨(some 4), .plain (.move (.const (.int .i64 (0)))), []⟩,
      ⟨(some 5), .plain (.move (.const (.int .i64 (0)))), []⟩,
      ⟨(some 6), .plain (.move (.const (.int .i64 (0)))), []⟩])
  (.seq (.seq (.region [⟨(some 10), .plain (.move (.tmp 1)), []⟩,
        ⟨(some 11), .plain (.bin .lss (.tmp 10) (.const (.int .i64 (0)))), []⟩,
        ⟨(some 12), .plain (.move (.tmp 11)), []⟩,
        ⟨(some 13), .plain (.move (.tmp 1)), [(12, false)]⟩,
        ⟨(some 14), .plain (.move (.tmp 0)), [(12, false)]⟩,
        ⟨(some 15), .call 12 [(.tmp 14)], [(12, false)]⟩,
        ⟨(some 16), .plain (.bin .gtr (.tmp 13) (.tmp 15)), [(12, false)]⟩,
        ⟨(some 17), .plain (.pick (.tmp 12) (.const (.bool true)) (.tmp 16)), []⟩])
    (.cond (.tmp 17) (.seq (.region [⟨(some 4), .plain (.move (.const (.int .i64 (0)))), []⟩,
          ⟨(some 5), .plain (.move (.const (.int .i64 (0)))), []⟩,
          ⟨(some 6), .plain (.move (.const (.int .i64 (2)))), []⟩])
      (.ret))
    (.skip)))
  (.seq (.region [⟨(some 19), .plain (.move (.tmp 0)), []⟩,
      ⟨(some 20), .plain (.move (.tmp 1)), []⟩,
      ⟨(some 21), .call 34 [(.tmp 19), (.func 12), (.tmp 20)], []⟩,
      ⟨(some 18), .plain (.move (.tmp 21)), []⟩,
      ⟨(some 22), .plain (.extract 0 (.tmp 18)), []⟩,
      ⟨(some 23), .plain (.extract 1 (.tmp 18)), []⟩,
      ⟨(some 24), .plain (.extract 2 (.tmp 18)), []⟩,
      ⟨(some 7), .plain (.move (.tmp 22)), []⟩,
      ⟨(some 8), .plain (.move (.tmp 23)), []⟩,
      ⟨(some 9), .plain (.move (.tmp 24)), []⟩])
  (.seq (.region [⟨(some 25), .plain (.move (.tmp 9)), []⟩,
      ⟨(some 4), .plain (.move (.tmp 25)), []⟩])
  (.seq (.seq (.region [⟨(some 26), .plain (.move (.tmp 7)), []⟩,
        ⟨(some 27), .plain (.isNil .ptr true (.tmp 26)), []⟩])
    (.cond (.tmp 27) (.region [⟨(some 28), .plain (.move (.tmp 4)), []⟩,
        ⟨(some 29), .plain (.move (.tmp 7)), []⟩,
        ⟨(some 30), .plain (.nilCheck (.tmp 29)), []⟩,
        ⟨(some 31), .plain (.fieldAddr 0 (.tmp 30)), []⟩,
        ⟨(some 32), .plain (.load 1 false (.tmp 31)), []⟩,
        ⟨(some 33), .plain (.move (.tmp 1)), []⟩,
        ⟨(some 34), .plain (.move (.tmp 8)), []⟩,
        ⟨(some 35), .plain (.bin .sub (.tmp 33) (.tmp 34)), []⟩,
        ⟨(some 36), .plain (.cutStr (.tmp 32) none (some (.tmp 35))), []⟩,
        ⟨(some 37), .call 35 [(.tmp 36), (.const (.string ⟨#[10]⟩))], []⟩,
        ⟨(some 38), .plain (.bin .add (.tmp 28) (.tmp 37)), []⟩,
        ⟨(some 4), .plain (.move (.tmp 38)), []⟩])
    (.skip)))
  (.seq (.region [⟨(some 39), .plain (.move (.tmp 4)), []⟩,
      ⟨(some 40), .plain (.move (.tmp 1)), []⟩,
      ⟨(some 41), .plain (.move (.tmp 0)), []⟩,
      ⟨(some 42), .plain (.move (.tmp 4)), []⟩,
      ⟨(some 43), .call 36 [(.tmp 41), (.tmp 42)], []⟩,
      ⟨(some 44), .plain (.bin .sub (.tmp 40) (.tmp 43)), []⟩,
      ⟨(some 4), .plain (.move (.tmp 39)), []⟩,
      ⟨(some 5), .plain (.move (.tmp 44)), []⟩,
      ⟨(some 6), .plain (.move (.const (.int .i64 (0)))), []⟩])
  (.ret))))))⟩
theorem comp20 : compF Try.prog an20 Try.f20 = some ir20 := by kernel_rfl
theorem lps20 : loopsF Try.prog an20 Try.f20 = [] := by kernel_rfl
/-- (*noonmark/rope.Rope).Offset -/
def an21 : An := (.s .z (.s (.s .z (.s (.s .z .z) .z)) (.s .z (.s (.s .z (.s (.s .z .z) .z)) (.s .z .z)))))
def ir21 : IFun := ⟨34, [.tmp 6, .tmp 7],
  .seq (.region [⟨(some 6), .plain (.move (.const (.int .i64 (0)))), []⟩,
      ⟨(some 7), .plain (.move (.const (.int .i64 (0)))), []⟩])
  (.seq (.seq (.region [⟨(some 9), .plain (.move (.tmp 1)), []⟩,
        ⟨(some 10), .plain (.bin .lss (.tmp 9) (.const (.int .i64 (0)))), []⟩,
        ⟨(some 11), .plain (.move (.tmp 10)), []⟩,
        ⟨(some 12), .plain (.move (.tmp 1)), [(11, false)]⟩,
        ⟨(some 13), .plain (.move (.tmp 0)), [(11, false)]⟩,
        ⟨(some 14), .call 16 [(.tmp 13)], [(11, false)]⟩,
        ⟨(some 15), .plain (.bin .geq (.tmp 12) (.tmp 14)), [(11, false)]⟩,
        ⟨(some 16), .plain (.pick (.tmp 11) (.const (.bool true)) (.tmp 15)), []⟩,
        ⟨(some 17), .plain (.move (.tmp 16)), []⟩,
        ⟨(some 18), .plain (.move (.tmp 2)), [(17, false)]⟩,
        ⟨(some 19), .plain (.bin .lss (.tmp 18) (.const (.int .i64 (0)))), [(17, false)]⟩,
        ⟨(some 20), .plain (.pick (.tmp 17) (.const (.bool true)) (.tmp 19)), []⟩])
    (.cond (.tmp 20) (.seq (.region [⟨(some 6), .plain (.move (.const (.int .i64 (0)))), []⟩,
          ⟨(some 7), .plain (.move (.const (.int .i64 (2)))), []⟩])
      (.ret))
    (.skip)))
  (.seq (.region [⟨(some 21), .plain (.move (.tmp 0)), []⟩,
      ⟨(some 22), .plain (.move (.tmp 1)), []⟩,
      ⟨(some 23), .call 36 [(.tmp 21), (.tmp 22)], []⟩,
      ⟨(some 8), .plain (.move (.tmp 23)), []⟩])
  (.seq (.seq (.region [⟨(some 24), .plain (.move (.tmp 2)), []⟩,
        ⟨(some 25), .plain (.move (.tmp 0)), []⟩,
        ⟨(some 26), .plain (.move (.tmp 1)), []⟩,
        ⟨(some 27), .call 37 [(.tmp 25), (.tmp 26)], []⟩,
        ⟨(some 28), .plain (.move (.tmp 8)), []⟩,
        ⟨(some 29), .plain (.bin .sub (.tmp 27) (.tmp 28)), []⟩,
        ⟨(some 30), .plain (.bin .gtr (.tmp 24) (.tmp 29)), []⟩])
    (.cond (.tmp 30) (.seq (.region [⟨(some 6), .plain (.move (.const (.int .i64 (0)))), []⟩,
          ⟨(some 7), .plain (.move (.const (.int .i64 (2)))), []⟩])
      (.ret))
    (.skip)))
  (.seq (.region [⟨(some 31), .plain (.move (.tmp 8)), []⟩,
      ⟨(some 32), .plain (.move (.tmp 2)), []⟩,
      ⟨(some 33), .plain (.bin .add (.tmp 31) (.tmp 32)), []⟩,
      ⟨(some 6), .plain (.move (.tmp 33)), []⟩,
      ⟨(some 7), .plain (.move (.const (.int .i64 (0)))), []⟩])
  (.ret)))))⟩
theorem comp21 : compF Try.prog an21 Try.f21 = some ir21 := by kernel_rfl
theorem lps21 : loopsF Try.prog an21 Try.f21 = [] := by kernel_rfl
/-- (*noonmark/rope.Rope).Slice -/
def an22 : An := (.s .z (.s (.s .z (.s (.s .z .z) .z)) (.s .z (.s .z (.s .z .z)))))
def ir22 : IFun := ⟨31, [.tmp 6, .tmp 7],
  .seq (.region [⟨(some 6), .plain (.move (.const (.string ⟨#[]⟩))), []⟩,
      ⟨(some 7), .plain (.move (.const (.int .i64 (0)))), []⟩])
  (.seq (.seq (.region [⟨(some 12), .plain (.move (.tmp 0)), []⟩,
        ⟨(some 13), .plain (.move (.tmp 1)), []⟩,
        ⟨(some 14), .plain (.move (.tmp 2)), []⟩,
        ⟨(some 15), .call 28 [(.tmp 12), (.tmp 13), (.tmp 14)], []⟩,
        ⟨(some 16), .plain (.un .not (.tmp 15)), []⟩])
    (.cond (.tmp 16) (.seq (.region [⟨(some 6), .plain (.move (.const (.string ⟨#[]⟩))), []⟩,
          ⟨(some 7), .plain (.move (.const (.int .i64 (2)))), []⟩])
      (.ret))
    (.skip)))
  (.seq (.region [⟨(some 18), .plain (.move (.tmp 0)), []⟩,
      ⟨(some 19), .plain (.move (.tmp 2)), []⟩,
      ⟨(some 20), .call 29 [(.tmp 18), (.tmp 19)], []⟩,
      ⟨(some 17), .plain (.move (.tmp 20)), []⟩,
      ⟨(some 21), .plain (.extract 0 (.tmp 17)), []⟩,
      ⟨(some 22), .plain (.extract 1 (.tmp 17)), []⟩,
      ⟨(some 8), .plain (.move (.tmp 21)), []⟩,
      ⟨(some 9), .plain (.move (.tmp 22)), []⟩])
  (.seq (.region [⟨(some 24), .plain (.move (.tmp 8)), []⟩,
      ⟨(some 25), .plain (.move (.tmp 1)), []⟩,
      ⟨(some 26), .call 29 [(.tmp 24), (.tmp 25)], []⟩,
      ⟨(some 23), .plain (.move (.tmp 26)), []⟩,
      ⟨(some 27), .plain (.extract 0 (.tmp 23)), []⟩,
      ⟨(some 28), .plain (.extract 1 (.tmp 23)), []⟩,
      ⟨(some 10), .plain (.move (.tmp 27)), []⟩,
      ⟨(some 11), .plain (.move (.tmp 28)), []⟩])
  (.seq (.region [⟨(some 29), .plain (.move (.tmp 11)), []⟩,
      ⟨(some 30), .call 15 [(.tmp 29)], []⟩,
      ⟨(some 6), .plain (.move (.tmp 30)), []⟩,
      ⟨(some 7), .plain (.move (.const (.int .i64 (0)))), []⟩])
  (.ret)))))⟩
theorem comp22 : compF Try.prog an22 Try.f22 = some ir22 := by kernel_rfl
theorem lps22 : loopsF Try.prog an22 Try.f22 = [] := by kernel_rfl
/-- (*noonmark/rope.Rope).Line -/
def an23 : An := (.s .z (.s (.s .z (.s (.s .z .z) .z)) (.s .z .z)))
def ir23 : IFun := ⟨24, [.tmp 4, .tmp 5],
  .seq (.region [⟨(some 4), .plain (.move (.const (.string ⟨#[]⟩))), []⟩,
      ⟨(some 5), .plain (.move (.const (.int .i64 (0)))), []⟩])
  (.seq (.seq (.region [⟨(some 6), .plain (.move (.tmp 1)), []⟩,
        ⟨(some 7), .plain (.bin .lss (.tmp 6) (.const (.int .i64 (0)))), []⟩,
        ⟨(some 8), .plain (.move (.tmp 7)), []⟩,
        ⟨(some 9), .plain (.move (.tmp 1)), [(8, false)]⟩,
        ⟨(some 10), .plain (.move (.tmp 0)), [(8, false)]⟩,
        ⟨(some 11), .call 16 [(.tmp 10)], [(8, false)]⟩,
        ⟨(some 12), .plain (.bin .geq (.tmp 9) (.tmp 11)), [(8, false)]⟩,
        ⟨(some 13), .plain (.pick (.tmp 8) (.const (.bool true)) (.tmp 12)), []⟩])
    (.cond (.tmp 13) (.seq (.region [⟨(some 4), .plain (.move (.const (.string ⟨#[]⟩))), []⟩,
          ⟨(some 5), .plain (.move (.const (.int .i64 (2)))), []⟩])
      (.ret))
    (.skip)))
  (.seq (.region [⟨(some 14), .plain (.move (.tmp 0)), []⟩,
      ⟨(some 15), .plain (.move (.tmp 0)), []⟩,
      ⟨(some 16), .plain (.move (.tmp 1)), []⟩,
      ⟨(some 17), .call 36 [(.tmp 15), (.tmp 16)], []⟩,
      ⟨(some 18), .plain (.move (.tmp 0)), []⟩,
      ⟨(some 19), .plain (.move (.tmp 1)), []⟩,
      ⟨(some 20), .call 37 [(.tmp 18), (.tmp 19)], []⟩,
      ⟨(some 21), .call 22 [(.tmp 14), (.tmp 17), (.tmp 20)], []⟩,
      ⟨(some 22), .plain (.extract 0 (.tmp 21)), []⟩,
      ⟨(some 23), .plain (.extract 1 (.tmp 21)), []⟩,
      ⟨(some 4), .plain (.move (.tmp 22)), []⟩,
      ⟨(some 5), .plain (.move (.tmp 23)), []⟩])
  (.ret)))⟩
theorem comp23 : compF Try.prog an23 Try.f23 = some ir23 := by kernel_rfl
theorem lps23 : loopsF Try.prog an23 Try.f23 = [] := by kernel_rfl
/-- noonmark/noonmarkref03.Slice -/
def an24 : An := (.s .z (.s (.s .z (.s (.s .z .z) .z)) (.s .z .z)))
def ir24 : IFun := ⟨25, [.tmp 6, .tmp 7],
  .seq (.region [⟨(some 6), .plain (.move (.const (.string ⟨#[]⟩))), []⟩,
      ⟨(some 7), .plain (.move (.const (.int .i64 (0)))), []⟩])
  (.seq (.seq (.region [⟨(some 8), .plain (.move (.tmp 1)), []⟩,
        ⟨(some 9), .plain (.bin .lss (.tmp 8) (.const (.int .i64 (0)))), []⟩,
        ⟨(some 10), .plain (.move (.tmp 9)), []⟩,
        ⟨(some 11), .plain (.move (.tmp 1)), [(10, false)]⟩,
        ⟨(some 12), .plain (.move (.tmp 2)), [(10, false)]⟩,
        ⟨(some 13), .plain (.bin .gtr (.tmp 11) (.tmp 12)), [(10, false)]⟩,
        ⟨(some 14), .plain (.pick (.tmp 10) (.const (.bool true)) (.tmp 13)), []⟩,
        ⟨(some 15), .plain (.move (.tmp 14)), []⟩,
        ⟨(some 16), .plain (.move (.tmp 2)), [(15, false)]⟩,
        ⟨(some 17), .plain (.move (.tmp 0)), [(15, false)]⟩,
        ⟨(some 18), .plain (.len true (.tmp 17)), [(15, false)]⟩,
        ⟨(some 19), .plain (.bin .gtr (.tmp 16) (.tmp 18)), [(15, false)]⟩,
        ⟨(some 20), .plain (.pick (.tmp 15) (.const (.bool true)) (.tmp 19)), []⟩])
    (.cond (.tmp 20) (.seq (.region [⟨(some 6), .plain (.move (.const (.string ⟨#[]⟩))), []⟩,
          ⟨(some 7), .plain (.move (.const (.int .i64 (2)))), []⟩])
      (.ret))
    (.skip)))
  (.seq (.region [⟨(some 21), .plain (.move (.tmp 0)), []⟩,
      ⟨(some 22), .plain (.move (.tmp 1)), []⟩,
      ⟨(some 23), .plain (.move (.tmp 2)), []⟩,
      ⟨(some 24), .plain (.cutStr (.tmp 21) (some (.tmp 22)) (some (.tmp 23))), []⟩,
      ⟨(some 6), .plain (.move (.tmp 24)), []⟩,
      ⟨(some 7), .plain (.move (.const (.int .i64 (0)))), []⟩])
  (.ret)))⟩
theorem comp24 : compF Try.prog an24 Try.f24 = some ir24 := by kernel_rfl
theorem lps24 : loopsF Try.prog an24 Try.f24 = [] := by kernel_rfl
/-- noonmark/noonmarkref03.Offset -/
def an25 : An := (.s .z (.s .z (.s (.s .z (.s (.s .z .z) .z)) (.s .z (.s (.s .z (.b (.l 2500 [1, 2, 8, 9, 10] (.s (.s .z (.s .z .z)) (.s (.b .z) .z))))) (.s .z .z))))))
def lb2500 : IC :=
  .seq (.seq (.region [⟨(some 34), .plain (.move (.tmp 10)), []⟩,
        ⟨(some 35), .plain (.move (.tmp 1)), []⟩,
        ⟨(some 36), .plain (.bin .lss (.tmp 34) (.tmp 35)), []⟩])
    (.cond (.tmp 36) (.skip)
    (.exit 0)))
  (.seq (.block 1 (.region [⟨(some 39), .plain (.move (.tmp 9)), []⟩,
        ⟨(some 40), .plain (.move (.tmp 8)), []⟩,
        ⟨(some 41), .plain (.move (.tmp 10)), []⟩,
        ⟨(some 42), .plain (.idx 1 (.tmp 40) (.tmp 41)), []⟩,
        ⟨(some 43), .plain (.load 1 false (.tmp 42)), []⟩,
        ⟨(some 44), .plain (.len true (.tmp 43)), []⟩,
        ⟨(some 45), .plain (.bin .add (.tmp 39) (.tmp 44)), []⟩,
        ⟨(some 46), .plain (.bin .add (.tmp 45) (.const (.int .i64 (1)))), []⟩,
        ⟨(some 9), .plain (.move (.tmp 46)), []⟩]))
  (.region [⟨(some 37), .plain (.move (.tmp 10)), []⟩,
    ⟨(some 38), .plain (.bin .add (.tmp 37) (.const (.int .i64 (1)))), []⟩,
    ⟨(some 10), .plain (.move (.tmp 38)), []⟩]))
def ir25 : IFun := ⟨50, [.tmp 6, .tmp 7],
  .seq (.region [⟨(some 6), .plain (.move (.const (.int .i64 (0)))), []⟩,
      ⟨(some 7), .plain (.move (.const (.int .i64 (0)))), []⟩])
  (.seq (.region [⟨(some 11), .plain (.move (.tmp 0)), []⟩,
      ⟨(some 12), .call 17 [(.tmp 11)], []⟩,
      ⟨(some 8), .plain (.move (.tmp 12)), []⟩])
  (.seq (.seq (.region [⟨(some 13), .plain (.move (.tmp 1)), []⟩,
        ⟨(some 14), .plain (.bin .lss (.tmp 13) (.const (.int .i64 (0)))), []⟩,
        ⟨(some 15), .plain (.move (.tmp 14)), []⟩,
        ⟨(some 16), .plain (.move (.tmp 1)), [(15, false)]⟩,
        ⟨(some 17), .plain (.move (.tmp 8)), [(15, false)]⟩,
        ⟨(some 18), .plain (.len false (.tmp 17)), [(15, false)]⟩,
        ⟨(some 19), .plain (.bin .geq (.tmp 16) (.tmp 18)), [(15, false)]⟩,
        ⟨(some 20), .plain (.pick (.tmp 15) (.const (.bool true)) (.tmp 19)), []⟩,
        ⟨(some 21), .plain (.move (.tmp 20)), []⟩,
        ⟨(some 22), .plain (.move (.tmp 2)), [(21, false)]⟩,
        ⟨(some 23), .plain (.bin .lss (.tmp 22) (.const (.int .i64 (0)))), [(21, false)]⟩,
        ⟨(some 24), .plain (.pick (.tmp 21) (.const (.bool true)) (.tmp 23)), []⟩,
        ⟨(some 25), .plain (.move (.tmp 24)), []⟩,
        ⟨(some 26), .plain (.move (.tmp 2)), [(25, false)]⟩,
        ⟨(some 27), .plain (.move (.tmp 8)), [(25, false)]⟩,
        ⟨(some 28), .plain (.move (.tmp 1)), [(25, false)]⟩,
        ⟨(some 29), .plain (.idx 1 (.tmp 27) (.tmp 28)), [(25, false)]⟩,
        ⟨(some 30), .plain (.load 1 false (.tmp 29)), [(25, false)]⟩,
        ⟨(some 31), .plain (.len true (.tmp 30)), [(25, false)]⟩,
        ⟨(some 32), .plain (.bin .gtr (.tmp 26) (.tmp 31)), [(25, false)]⟩,
        ⟨(some 33), .plain (.pick (.tmp 25) (.const (.bool true)) (.tmp 32)), []⟩])
    (.cond (.tmp 33) (.seq (.region [⟨(some 6), .plain (.move (.const (.int .i64 (0)))), []⟩,
          ⟨(some 7), .plain (.move (.const (.int .i64 (2)))), []⟩])
      (.ret))
    (.skip)))
  (.seq (.region [⟨(some 9), .plain (.move (.const (.int .i64 (0)))), []⟩])
  (.seq (.seq (.region [⟨(some 10), .plain (.move (.const (.int .i64 (0)))), []⟩])
    (.block 0 (.loop 2500 [1, 2, 8, 9, 10])))
  (.seq (.region [⟨(some 47), .plain (.move (.tmp 9)), []⟩,
      ⟨(some 48), .plain (.move (.tmp 2)), []⟩,
      ⟨(some 49), .plain (.bin .add (.tmp 47) (.tmp 48)), []⟩,
      ⟨(some 6), .plain (.move (.tmp 49)), []⟩,
      ⟨(some 7), .plain (.move (.const (.int .i64 (0)))), []⟩])
  (.ret))))))⟩
theorem comp25 : compF Try.prog an25 Try.f25 = some ir25 := by kernel_rfl
theorem lps25 : loopsF Try.prog an25 Try.f25 = [(2500, [1, 2, 8, 9, 10], some lb2500)] := by kernel_rfl
/-- noonmark/noonmarkref03.Place -/
def an26 : An := (.s .z (.s (.s .z (.s (.s .z .z) .z)) (.s .z (.s .z .z))))
def ir26 : IFun := ⟨30, [.tmp 4, .tmp 5, .tmp 6],
  .seq (.region [⟨(some 4), .plain (.move (.const (.int .i64 (0)))), []⟩,
      ⟨(some 5), .plain (.move (.const (.int .i64 (0)))), []⟩,
      ⟨(some 6), .plain (.move (.const (.int .i64 (0)))), []⟩])
  (.seq (.seq (.region [⟨(some 8), .plain (.move (.tmp 1)), []⟩,
        ⟨(some 9), .plain (.bin .lss (.tmp 8) (.const (.int .i64 (0)))), []⟩,
        ⟨(some 10), .plain (.move (.tmp 9)), []⟩,
        ⟨(some 11), .plain (.move (.tmp 1)), [(10, false)]⟩,
        ⟨(some 12), .plain (.move (.tmp 0)), [(10, false)]⟩,
        ⟨(some 13), .plain (.len true (.tmp 12)), [(10, false)]⟩,
        ⟨(some 14), .plain (.bin .gtr (.tmp 11) (.tmp 13)), [(10, false)]⟩,
        ⟨(some 15), .plain (.pick (.tmp 10) (.const (.bool true)) (.tmp 14)), []⟩])
    (.cond (.tmp 15) (.seq (.region [⟨(some 4), .plain (.move (.const (.int .i64 (0)))), []⟩,
          ⟨(some 5), .plain (.move (.const (.int .i64 (0)))), []⟩,
          ⟨(some 6), .plain (.move (.const (.int .i64 (2)))), []⟩])
      (.ret))
    (.skip)))
  (.seq (.region [⟨(some 16), .plain (.move (.tmp 0)), []⟩,
      ⟨(some 17), .plain (.move (.tmp 1)), []⟩,
      ⟨(some 18), .plain (.cutStr (.tmp 16) none (some (.tmp 17))), []⟩,
      ⟨(some 19), .call 17 [(.tmp 18)], []⟩,
      ⟨(some 7), .plain (.move (.tmp 19)), []⟩])
  (.seq (.draws [(⟨(some 20), .plain (.move (.tmp 7)), []⟩, [7], .pure),
      (⟨(some 21), .plain (.len false (.tmp 20)), []⟩, [20], .pure),
      (⟨(some 22), .plain (.bin .sub (.tmp 21) (.const (.int .i64 (1)))), []⟩, [21], .pure),
      (⟨(some 23), .plain (.move (.tmp 7)), []⟩, [7], .pure),
      (⟨(some 24), .plain (.move (.tmp 7)), []⟩, [7], .pure),
      (⟨(some 25), .plain (.len false (.tmp 24)), []⟩, [24], .pure),
      (⟨(some 26), .plain (.bin .sub (.tmp 25) (.const (.int .i64 (1)))), []⟩, [25], .pure),
      (⟨(some 27), .plain (.idx 1 (.tmp 23) (.tmp 26)), []⟩, [23, 26], .pure),
      (⟨(some 28), .plain (.load 1 false (.tmp 27)), []⟩, [27], .peek),
      (⟨(some 29), .plain (.len true (.tmp 28)), []⟩, [28], .pure),
      (⟨(some 4), .plain (.move (.tmp 22)), []⟩, [22], .pure),
      (⟨(some 5), .plain (.move (.tmp 29)), []⟩, [29], .pure),
      (⟨(some 6), .plain (.move (.const (.int .i64 (0)))), []⟩, [], .pure)])
  (.ret))))⟩
theorem comp26 : compF Try.prog an26 Try.f26 = some ir26 := by kernel_rfl
theorem lps26 : loopsF Try.prog an26 Try.f26 = [] := by kernel_rfl
/-- noonmark/rope.of -/
def an27 : An := (.s .z (.s (.s .z (.s (.s .z .z) .z)) (.s .z (.s .z .z))))
def ir27 : IFun := ⟨21, [.tmp 2],
  .seq (.region [⟨(some 2), .plain (.move (.const (.pointer none))), []⟩])
  (.seq (.seq (.region [⟨(some 4), .plain (.move (.tmp 0)), []⟩,
        ⟨(some 5), .plain (.len true (.tmp 4)), []⟩,
        ⟨(some 6), .plain (.bin .leq (.tmp 5) (.const (.int .i64 (64)))), []⟩])
    (.cond (.tmp 6) (.seq (.region [⟨(some 7), .plain (.move (.tmp 0)), []⟩,
          ⟨(some 8), .call 38 [(.tmp 7)], []⟩,
          ⟨(some 2), .plain (.move (.tmp 8)), []⟩])
      (.ret))
    (.skip)))
  (.seq (.region [⟨(some 9), .plain (.move (.tmp 0)), []⟩,
      ⟨(some 10), .plain (.len true (.tmp 9)), []⟩,
      ⟨(some 11), .plain (.bin .quo (.tmp 10) (.const (.int .i64 (2)))), []⟩,
      ⟨(some 3), .plain (.move (.tmp 11)), []⟩])
  (.seq (.draws [(⟨(some 12), .plain (.move (.tmp 0)), []⟩, [0], .pure),
      (⟨(some 13), .plain (.move (.tmp 3)), []⟩, [3], .pure),
      (⟨(some 14), .plain (.cutStr (.tmp 12) none (some (.tmp 13))), []⟩, [12, 13], .pure),
      (⟨(some 15), .call 27 [(.tmp 14)], []⟩, [14], .quiet),
      (⟨(some 16), .plain (.move (.tmp 0)), []⟩, [0], .pure),
      (⟨(some 17), .plain (.move (.tmp 3)), []⟩, [3], .pure),
      (⟨(some 18), .plain (.cutStr (.tmp 16) (some (.tmp 17)) none), []⟩, [16, 17], .pure),
      (⟨(some 19), .call 27 [(.tmp 18)], []⟩, [18], .quiet),
      (⟨(some 20), .call 30 [(.tmp 15), (.tmp 19)], []⟩, [15, 19], .quiet),
      (⟨(some 2), .plain (.move (.tmp 20)), []⟩, [20], .pure)])
  (.ret))))⟩
theorem comp27 : compF Try.prog an27 Try.f27 = some ir27 := by kernel_rfl
theorem lps27 : loopsF Try.prog an27 Try.f27 = [] := by kernel_rfl
/-- (*noonmark/rope.Rope).inside -/
def an28 : An := (.s .z (.s .z .z))
def ir28 : IFun := ⟨20, [.tmp 6],
  .seq (.region [⟨(some 6), .plain (.move (.const (.bool false))), []⟩])
  (.seq (.region [⟨(some 7), .plain (.move (.tmp 1)), []⟩,
      ⟨(some 8), .plain (.bin .geq (.tmp 7) (.const (.int .i64 (0)))), []⟩,
      ⟨(some 9), .plain (.move (.tmp 8)), []⟩,
      ⟨(some 10), .plain (.move (.tmp 1)), [(9, true)]⟩,
      ⟨(some 11), .plain (.move (.tmp 2)), [(9, true)]⟩,
      ⟨(some 12), .plain (.bin .leq (.tmp 10) (.tmp 11)), [(9, true)]⟩,
      ⟨(some 13), .plain (.pick (.tmp 9) (.tmp 12) (.const (.bool false))), []⟩,
      ⟨(some 14), .plain (.move (.tmp 13)), []⟩,
      ⟨(some 15), .plain (.move (.tmp 2)), [(14, true)]⟩,
      ⟨(some 16), .plain (.move (.tmp 0)), [(14, true)]⟩,
      ⟨(some 17), .call 12 [(.tmp 16)], [(14, true)]⟩,
      ⟨(some 18), .plain (.bin .leq (.tmp 15) (.tmp 17)), [(14, true)]⟩,
      ⟨(some 19), .plain (.pick (.tmp 14) (.tmp 18) (.const (.bool false))), []⟩,
      ⟨(some 6), .plain (.move (.tmp 19)), []⟩])
  (.ret))⟩
theorem comp28 : compF Try.prog an28 Try.f28 = some ir28 := by kernel_rfl
theorem lps28 : loopsF Try.prog an28 Try.f28 = [] := by kernel_rfl
/-- (*noonmark/rope.Rope).cut -/
def an29 : An := (.s .z (.s (.b (.s .z (.s (.s .z .z) (.s .z (.s (.s .z .z) (.s .z (.s (.s .z .z) .z))))))) (.s .z (.s (.s .z (.s (.s .z (.s .z .z)) .z)) (.s .z (.s .z .z))))))
def ir29 : IFun := ⟨89, [.tmp 4, .tmp 5],
  .seq (.region [⟨(some 4), .plain (.move (.const (.pointer none))), []⟩,
      ⟨(some 5), .plain (.move (.const (.pointer none))), []⟩])
  (.seq (.block 0 (.seq (.region [⟨(some 12), .plain (.move (.tmp 0)), []⟩,
          ⟨(some 13), .plain (.isNil .ptr false (.tmp 12)), []⟩,
          ⟨(some 14), .plain (.move (.tmp 13)), []⟩,
          ⟨(some 15), .plain (.move (.tmp 1)), [(14, false)]⟩,
          ⟨(some 16), .plain (.bin .leq (.tmp 15) (.const (.int .i64 (0)))), [(14, false)]⟩,
          ⟨(some 17), .plain (.pick (.tmp 14) (.const (.bool true)) (.tmp 16)), []⟩,
          ⟨(some 11), .plain (.move (.tmp 17)), []⟩])
      (.cond (.tmp 11) (.seq (.region [⟨(some 18), .plain (.move (.tmp 0)), []⟩,
            ⟨(some 4), .plain (.move (.const (.pointer none))), []⟩,
            ⟨(some 5), .plain (.move (.tmp 18)), []⟩])
        (.ret))
      (.seq (.region [⟨(some 20), .plain (.move (.tmp 1)), []⟩,
            ⟨(some 21), .plain (.move (.tmp 0)), []⟩,
            ⟨(some 22), .plain (.nilCheck (.tmp 21)), []⟩,
            ⟨(some 23), .plain (.fieldAddr 3 (.tmp 22)), []⟩,
            ⟨(some 24), .plain (.load 1 false (.tmp 23)), []⟩,
            ⟨(some 25), .plain (.bin .geq (.tmp 20) (.tmp 24)), []⟩,
            ⟨(some 19), .plain (.move (.tmp 25)), []⟩])
        (.cond (.tmp 19) (.seq (.region [⟨(some 26), .plain (.move (.tmp 0)), []⟩,
              ⟨(some 4), .plain (.move (.tmp 26)), []⟩,
              ⟨(some 5), .plain (.move (.const (.pointer none))), []⟩])
          (.ret))
        (.seq (.region [⟨(some 28), .plain (.move (.tmp 0)), []⟩,
              ⟨(some 29), .plain (.nilCheck (.tmp 28)), []⟩,
              ⟨(some 30), .plain (.fieldAddr 5 (.tmp 29)), []⟩,
              ⟨(some 31), .plain (.load 1 false (.tmp 30)), []⟩,
              ⟨(some 32), .plain (.bin .eql (.tmp 31) (.const (.int .i64 (1)))), []⟩,
              ⟨(some 27), .plain (.move (.tmp 32)), []⟩])
          (.cond (.tmp 27) (.seq (.draws [(⟨(some 33), .plain (.move (.tmp 0)), []⟩, [0], .pure),
                (⟨(some 34), .plain (.nilCheck (.tmp 33)), []⟩, [33], .pure),
                (⟨(some 35), .plain (.fieldAddr 0 (.tmp 34)), []⟩, [34], .pure),
                (⟨(some 36), .plain (.load 1 false (.tmp 35)), []⟩, [35], .peek),
                (⟨(some 37), .plain (.move (.tmp 1)), []⟩, [1], .pure),
                (⟨(some 38), .plain (.cutStr (.tmp 36) none (some (.tmp 37))), []⟩, [36, 37], .pure),
                (⟨(some 39), .call 38 [(.tmp 38)], []⟩, [38], .quiet),
                (⟨(some 40), .plain (.move (.tmp 0)), []⟩, [0], .pure),
                (⟨(some 41), .plain (.nilCheck (.tmp 40)), []⟩, [40], .pure),
                (⟨(some 42), .plain (.fieldAddr 0 (.tmp 41)), []⟩, [41], .pure),
                (⟨(some 43), .plain (.load 1 false (.tmp 42)), []⟩, [42], .peek),
                (⟨(some 44), .plain (.move (.tmp 1)), []⟩, [1], .pure),
                (⟨(some 45), .plain (.cutStr (.tmp 43) (some (.tmp 44)) none), []⟩, [43, 44], .pure),
                (⟨(some 46), .call 38 [(.tmp 45)], []⟩, [45], .quiet),
                (⟨(some 4), .plain (.move (.tmp 39)), []⟩, [39], .pure),
                (⟨(some 5), .plain (.move (.tmp 46)), []⟩, [46], .pure)])
            (.ret))
          (.skip))))))))
  (.seq (.region [⟨(some 47), .plain (.move (.tmp 0)), []⟩,
      ⟨(some 48), .plain (.nilCheck (.tmp 47)), []⟩,
      ⟨(some 49), .plain (.fieldAddr 1 (.tmp 48)), []⟩,
      ⟨(some 50), .plain (.load 1 false (.tmp 49)), []⟩,
      ⟨(some 51), .call 12 [(.tmp 50)], []⟩,
      ⟨(some 6), .plain (.move (.tmp 51)), []⟩])
  (.seq (.seq (.region [⟨(some 52), .plain (.move (.tmp 1)), []⟩,
        ⟨(some 53), .plain (.move (.tmp 6)), []⟩,
        ⟨(some 54), .plain (.bin .lss (.tmp 52) (.tmp 53)), []⟩])
    (.cond (.tmp 54) (.seq (.region [⟨(some 56), .plain (.move (.tmp 0)), []⟩,
          ⟨(some 57), .plain (.nilCheck (.tmp 56)), []⟩,
          ⟨(some 58), .plain (.fieldAddr 1 (.tmp 57)), []⟩,
          ⟨(some 59), .plain (.load 1 false (.tmp 58)), []⟩,
          ⟨(some 60), .plain (.move (.tmp 1)), []⟩,
          ⟨(some 61), .call 29 [(.tmp 59), (.tmp 60)], []⟩,
          ⟨(some 55), .plain (.move (.tmp 61)), []⟩,
          ⟨(some 62), .plain (.extract 0 (.tmp 55)), []⟩,
          ⟨(some 63), .plain (.extract 1 (.tmp 55)), []⟩,
          ⟨(some 7), .plain (.move (.tmp 62)), []⟩,
          ⟨(some 8), .plain (.move (.tmp 63)), []⟩])
      (.seq (.region [⟨(some 64), .plain (.move (.tmp 7)), []⟩,
          ⟨(some 65), .plain (.move (.tmp 8)), []⟩,
          ⟨(some 66), .plain (.move (.tmp 0)), []⟩,
          ⟨(some 67), .plain (.nilCheck (.tmp 66)), []⟩,
          ⟨(some 68), .plain (.fieldAddr 2 (.tmp 67)), []⟩,
          ⟨(some 69), .plain (.load 1 false (.tmp 68)), []⟩,
          ⟨(some 70), .call 30 [(.tmp 65), (.tmp 69)], []⟩,
          ⟨(some 4), .plain (.move (.tmp 64)), []⟩,
          ⟨(some 5), .plain (.move (.tmp 70)), []⟩])
      (.ret)))
    (.skip)))
  (.seq (.region [⟨(some 72), .plain (.move (.tmp 0)), []⟩,
      ⟨(some 73), .plain (.nilCheck (.tmp 72)), []⟩,
      ⟨(some 74), .plain (.fieldAddr 2 (.tmp 73)), []⟩,
      ⟨(some 75), .plain (.load 1 false (.tmp 74)), []⟩,
      ⟨(some 76), .plain (.move (.tmp 1)), []⟩,
      ⟨(some 77), .plain (.move (.tmp 6)), []⟩,
      ⟨(some 78), .plain (.bin .sub (.tmp 76) (.tmp 77)), []⟩,
      ⟨(some 79), .call 29 [(.tmp 75), (.tmp 78)], []⟩,
      ⟨(some 71), .plain (.move (.tmp 79)), []⟩,
      ⟨(some 80), .plain (.extract 0 (.tmp 71)), []⟩,
      ⟨(some 81), .plain (.extract 1 (.tmp 71)), []⟩,
      ⟨(some 9), .plain (.move (.tmp 80)), []⟩,
      ⟨(some 10), .plain (.move (.tmp 81)), []⟩])
  (.seq (.region [⟨(some 82), .plain (.move (.tmp 0)), []⟩,
      ⟨(some 83), .plain (.nilCheck (.tmp 82)), []⟩,
      ⟨(some 84), .plain (.fieldAddr 1 (.tmp 83)), []⟩,
      ⟨(some 85), .plain (.load 1 false (.tmp 84)), []⟩,
      ⟨(some 86), .plain (.move (.tmp 9)), []⟩,
      ⟨(some 87), .call 30 [(.tmp 85), (.tmp 86)], []⟩,
      ⟨(some 88), .plain (.move (.tmp 10)), []⟩,
      ⟨(some 4), .plain (.move (.tmp 87)), []⟩,
      ⟨(some 5), .plain (.move (.tmp 88)), []⟩])
  (.ret))))))⟩
theorem comp29 : compF Try.prog an29 Try.f29 = some ir29 := by kernel_rfl
theorem lps29 : loopsF Try.prog an29 Try.f29 = [] := by kernel_rfl
/-- noonmark/rope.join -/
def an30 : An := (.s .z (.s (.b (.s .z (.s (.s .z .z) (.s .z (.s (.s .z .z) (.s .z (.s (.s .z .z) (.s .z (.s (.s .z .z) (.s .z (.s (.s .z .z) .z))))))))))) (.s .z .z)))
def ir30 : IFun := ⟨95, [.tmp 4],
  .seq (.region [⟨(some 4), .plain (.move (.const (.pointer none))), []⟩])
  (.seq (.block 0 (.seq (.region [⟨(some 6), .plain (.move (.tmp 0)), []⟩,
          ⟨(some 7), .plain (.isNil .ptr false (.tmp 6)), []⟩,
          ⟨(some 5), .plain (.move (.tmp 7)), []⟩])
      (.cond (.tmp 5) (.seq (.region [⟨(some 8), .plain (.move (.tmp 1)), []⟩,
            ⟨(some 4), .plain (.move (.tmp 8)), []⟩])
        (.ret))
      (.seq (.region [⟨(some 10), .plain (.move (.tmp 1)), []⟩,
            ⟨(some 11), .plain (.isNil .ptr false (.tmp 10)), []⟩,
            ⟨(some 9), .plain (.move (.tmp 11)), []⟩])
        (.cond (.tmp 9) (.seq (.region [⟨(some 12), .plain (.move (.tmp 0)), []⟩,
              ⟨(some 4), .plain (.move (.tmp 12)), []⟩])
          (.ret))
        (.seq (.draws [(⟨(some 14), .plain (.move (.tmp 0)), []⟩, [0], .pure),
              (⟨(some 15), .plain (.nilCheck (.tmp 14)), []⟩, [14], .pure),
              (⟨(some 16), .plain (.fieldAddr 5 (.tmp 15)), []⟩, [15], .pure),
              (⟨(some 17), .plain (.load 1 false (.tmp 16)), []⟩, [16], .peek),
              (⟨(some 18), .plain (.bin .eql (.tmp 17) (.const (.int .i64 (1)))), []⟩, [17], .pure),
              (⟨(some 19), .plain (.move (.tmp 18)), []⟩, [18], .pure),
              (⟨(some 20), .plain (.move (.tmp 1)), [(19, true)]⟩, [1, 19], .pure),
              (⟨(some 21), .plain (.nilCheck (.tmp 20)), [(19, true)]⟩, [20, 19], .pure),
              (⟨(some 22), .plain (.fieldAddr 5 (.tmp 21)), [(19, true)]⟩, [21, 19], .pure),
              (⟨(some 23), .plain (.load 1 false (.tmp 22)), [(19, true)]⟩, [22, 19], .quiet),
              (⟨(some 24), .plain (.bin .eql (.tmp 23) (.const (.int .i64 (1)))), [(19, true)]⟩, [23, 19], .pure),
              (⟨(some 25), .plain (.pick (.tmp 19) (.tmp 24) (.const (.bool false))), []⟩, [19, 24], .pure),
              (⟨(some 26), .plain (.move (.tmp 25)), []⟩, [25], .pure),
              (⟨(some 27), .plain (.move (.tmp 0)), [(26, true)]⟩, [0, 26], .pure),
              (⟨(some 28), .plain (.nilCheck (.tmp 27)), [(26, true)]⟩, [27, 26], .pure),
              (⟨(some 29), .plain (.fieldAddr 3 (.tmp 28)), [(26, true)]⟩, [28, 26], .pure),
              (⟨(some 30), .plain (.load 1 false (.tmp 29)), [(26, true)]⟩, [29, 26], .quiet),
              (⟨(some 31), .plain (.move (.tmp 1)), [(26, true)]⟩, [1, 26], .pure),
              (⟨(some 32), .plain (.nilCheck (.tmp 31)), [(26, true)]⟩, [31, 26], .pure),
              (⟨(some 33), .plain (.fieldAddr 3 (.tmp 32)), [(26, true)]⟩, [32, 26], .pure),
              (⟨(some 34), .plain (.load 1 false (.tmp 33)), [(26, true)]⟩, [33, 26], .quiet),
              (⟨(some 35), .plain (.bin .add (.tmp 30) (.tmp 34)), [(26, true)]⟩, [30, 34, 26], .pure),
              (⟨(some 36), .plain (.bin .leq (.tmp 35) (.const (.int .i64 (64)))), [(26, true)]⟩, [35, 26], .pure),
              (⟨(some 37), .plain (.pick (.tmp 26) (.tmp 36) (.const (.bool false))), []⟩, [26, 36], .pure),
              (⟨(some 13), .plain (.move (.tmp 37)), []⟩, [37], .pure)])
          (.cond (.tmp 13) (.seq (.draws [(⟨(some 38), .plain (.move (.tmp 0)), []⟩, [0], .pure),
                (⟨(some 39), .plain (.nilCheck (.tmp 38)), []⟩, [38], .pure),
                (⟨(some 40), .plain (.fieldAddr 0 (.tmp 39)), []⟩, [39], .pure),
                (⟨(some 41), .plain (.load 1 false (.tmp 40)), []⟩, [40], .peek),
                (⟨(some 42), .plain (.move (.tmp 1)), []⟩, [1], .pure),
                (⟨(some 43), .plain (.nilCheck (.tmp 42)), []⟩, [42], .pure),
                (⟨(some 44), .plain (.fieldAddr 0 (.tmp 43)), []⟩, [43], .pure),
                (⟨(some 45), .plain (.load 1 false (.tmp 44)), []⟩, [44], .peek),
                (⟨(some 46), .plain (.bin .add (.tmp 41) (.tmp 45)), []⟩, [41, 45], .pure),
                (⟨(some 47), .call 38 [(.tmp 46)], []⟩, [46], .quiet),
                (⟨(some 4), .plain (.move (.tmp 47)), []⟩, [47], .pure)])
            (.ret))
          (.seq (.draws [(⟨(some 49), .plain (.move (.tmp 0)), []⟩, [0], .pure),
                (⟨(some 50), .plain (.nilCheck (.tmp 49)), []⟩, [49], .pure),
                (⟨(some 51), .plain (.fieldAddr 5 (.tmp 50)), []⟩, [50], .pure),
                (⟨(some 52), .plain (.load 1 false (.tmp 51)), []⟩, [51], .peek),
                (⟨(some 53), .plain (.move (.tmp 1)), []⟩, [1], .pure),
                (⟨(some 54), .plain (.nilCheck (.tmp 53)), []⟩, [53], .pure),
                (⟨(some 55), .plain (.fieldAddr 5 (.tmp 54)), []⟩, [54], .pure),
                (⟨(some 56), .plain (.load 1 false (.tmp 55)), []⟩, [55], .peek),
                (⟨(some 57), .plain (.bin .add (.tmp 56) (.const (.int .i64 (1)))), []⟩, [56], .pure),
                (⟨(some 58), .plain (.bin .gtr (.tmp 52) (.tmp 57)), []⟩, [52, 57], .pure),
                (⟨(some 48), .plain (.move (.tmp 58)), []⟩, [58], .pure)])
            (.cond (.tmp 48) (.seq (.draws [(⟨(some 59), .plain (.move (.tmp 0)), []⟩, [0], .pure),
                  (⟨(some 60), .plain (.nilCheck (.tmp 59)), []⟩, [59], .pure),
                  (⟨(some 61), .plain (.fieldAddr 1 (.tmp 60)), []⟩, [60], .pure),
                  (⟨(some 62), .plain (.load 1 false (.tmp 61)), []⟩, [61], .peek),
                  (⟨(some 63), .plain (.move (.tmp 0)), []⟩, [0], .pure),
                  (⟨(some 64), .plain (.nilCheck (.tmp 63)), []⟩, [63], .pure),
                  (⟨(some 65), .plain (.fieldAddr 2 (.tmp 64)), []⟩, [64], .pure),
                  (⟨(some 66), .plain (.load 1 false (.tmp 65)), []⟩, [65], .peek),
                  (⟨(some 67), .plain (.move (.tmp 1)), []⟩, [1], .pure),
                  (⟨(some 68), .call 30 [(.tmp 66), (.tmp 67)], []⟩, [66, 67], .quiet),
                  (⟨(some 69), .call 39 [(.tmp 62), (.tmp 68)], []⟩, [62, 68], .quiet),
                  (⟨(some 4), .plain (.move (.tmp 69)), []⟩, [69], .pure)])
              (.ret))
            (.seq (.draws [(⟨(some 71), .plain (.move (.tmp 1)), []⟩, [1], .pure),
                  (⟨(some 72), .plain (.nilCheck (.tmp 71)), []⟩, [71], .pure),
                  (⟨(some 73), .plain (.fieldAddr 5 (.tmp 72)), []⟩, [72], .pure),
                  (⟨(some 74), .plain (.load 1 false (.tmp 73)), []⟩, [73], .peek),
                  (⟨(some 75), .plain (.move (.tmp 0)), []⟩, [0], .pure),
                  (⟨(some 76), .plain (.nilCheck (.tmp 75)), []⟩, [75], .pure),
                  (⟨(some 77), .plain (.fieldAddr 5 (.tmp 76)), []⟩, [76], .pure),
                  (⟨(some 78), .plain (.load 1 false (.tmp 77)), []⟩, [77], .peek),
                  (⟨(some 79), .plain (.bin .add (.tmp 78) (.const (.int .i64 (1)))), []⟩, [78], .pure),
                  (⟨(some 80), .plain (.bin .gtr (.tmp 74) (.tmp 79)), []⟩, [74, 79], .pure),
                  (⟨(some 70), .plain (.move (.tmp 80)), []⟩, [80], .pure)])
              (.cond (.tmp 70) (.seq (.draws [(⟨(some 81), .plain (.move (.tmp 0)), []⟩, [0], .pure),
                    (⟨(some 82), .plain (.move (.tmp 1)), []⟩, [1], .pure),
                    (⟨(some 83), .plain (.nilCheck (.tmp 82)), []⟩, [82], .pure),
                    (⟨(some 84), .plain (.fieldAddr 1 (.tmp 83)), []⟩, [83], .pure),
                    (⟨(some 85), .plain (.load 1 false (.tmp 84)), []⟩, [84], .peek),
                    (⟨(some 86), .call 30 [(.tmp 81), (.tmp 85)], []⟩, [81, 85], .quiet),
                    (⟨(some 87), .plain (.move (.tmp 1)), []⟩, [1], .pure),
                    (⟨(some 88), .plain (.nilCheck (.tmp 87)), []⟩, [87], .pure),
                    (⟨(some 89), .plain (.fieldAddr 2 (.tmp 88)), []⟩, [88], .pure),
                    (⟨(some 90), .plain (.load 1 false (.tmp 89)), []⟩, [89], .peek),
                    (⟨(some 91), .call 39 [(.tmp 86), (.tmp 90)], []⟩, [86, 90], .quiet),
                    (⟨(some 4), .plain (.move (.tmp 91)), []⟩, [91], .pure)])
                (.ret))
              (.skip))))))))))))
  (.seq (.region [⟨(some 92), .plain (.move (.tmp 0)), []⟩,
      ⟨(some 93), .plain (.move (.tmp 1)), []⟩,
      ⟨(some 94), .call 40 [(.tmp 92), (.tmp 93)], []⟩,
      ⟨(some 4), .plain (.move (.tmp 94)), []⟩])
  (.ret)))⟩
theorem comp30 : compF Try.prog an30 Try.f30 = some ir30 := by kernel_rfl
theorem lps30 : loopsF Try.prog an30 Try.f30 = [] := by kernel_rfl
/-- (*noonmark/rope.Rope).write -/
def an31 : An := (.s (.s .z (.s .z .z)) (.s .z (.s .z (.b (.l 3100 [1, 22, 23] (.s .z (.s (.s .z .z) (.s (.b (.s .z .z)) .z))))))))
def lb3100 : IC :=
  .seq (.region [⟨(some 24), .plain (.bin .lss (.tmp 23) (.const (.int .i64 (2)))), []⟩])
  (.seq (.cond (.tmp 24) (.skip)
    (.exit 0))
  (.seq (.block 1 (.seq (.region [⟨(some 25), .plain (.elem false 2 1 (.tmp 22) (.tmp 23)), []⟩,
          ⟨(some 5), .plain (.move (.tmp 25)), []⟩])
      (.region [⟨(some 26), .plain (.move (.tmp 5)), []⟩,
        ⟨(some 27), .plain (.move (.tmp 1)), []⟩,
        ⟨(some 28), .call 31 [(.tmp 26), (.tmp 27)], []⟩])))
  (.region [⟨(some 29), .plain (.bin .add (.tmp 23) (.const (.int .i64 (1)))), []⟩,
    ⟨(some 23), .plain (.move (.tmp 29)), []⟩])))
def ir31 : IFun := ⟨30, [],
  .seq (.seq (.region [⟨(some 6), .plain (.move (.tmp 0)), []⟩,
        ⟨(some 7), .plain (.isNil .ptr false (.tmp 6)), []⟩])
    (.cond (.tmp 7) (.ret)
    (.skip)))
  (.seq (.region [⟨(some 8), .plain (.move (.tmp 1)), []⟩,
      ⟨(some 9), .plain (.move (.tmp 0)), []⟩,
      ⟨(some 10), .plain (.nilCheck (.tmp 9)), []⟩,
      ⟨(some 11), .plain (.fieldAddr 0 (.tmp 10)), []⟩,
      ⟨(some 12), .plain (.load 1 false (.tmp 11)), []⟩,
      ⟨(some 13), .call 41 [(.tmp 8), (.tmp 12)], []⟩])
  (.seq (.draws [(⟨(some 14), .plain (.move (.tmp 0)), []⟩, [0], .pure),
      (⟨(some 15), .plain (.nilCheck (.tmp 14)), []⟩, [14], .pure),
      (⟨(some 16), .plain (.fieldAddr 1 (.tmp 15)), []⟩, [15], .pure),
      (⟨(some 17), .plain (.load 1 false (.tmp 16)), []⟩, [16], .peek),
      (⟨(some 18), .plain (.move (.tmp 0)), []⟩, [0], .pure),
      (⟨(some 19), .plain (.nilCheck (.tmp 18)), []⟩, [18], .pure),
      (⟨(some 20), .plain (.fieldAddr 2 (.tmp 19)), []⟩, [19], .pure),
      (⟨(some 21), .plain (.load 1 false (.tmp 20)), []⟩, [20], .peek),
      (⟨(some 22), .plain (.build [(0, 1), (1, 1)] [(.pointer none), (.pointer none)] [(0, (.tmp 17)), (1, (.tmp 21))]), []⟩, [17, 21], .pure),
      (⟨(some 23), .plain (.move (.const (.int .i64 (0)))), []⟩, [], .pure)])
  (.block 0 (.loop 3100 [1, 22, 23]))))⟩
theorem comp31 : compF Try.prog an31 Try.f31 = some ir31 := by kernel_rfl
theorem lps31 : loopsF Try.prog an31 Try.f31 = [(3100, [1, 22, 23], some lb3100)] := by kernel_rfl
/-- (*strings.Builder).String -/
def an32 : An := (.s .z (.s .z .z))
def ir32 : IFun := ⟨14, [.tmp 2],
  .seq (.region [⟨(some 2), .plain (.move (.const (.string ⟨#[]⟩))), []⟩])
  (.seq (.draws [(⟨(some 3), .plain (.move (.tmp 0)), []⟩, [0], .pure),
      (⟨(some 4), .plain (.nilCheck (.tmp 3)), []⟩, [3], .pure),
      (⟨(some 5), .plain (.fieldAddr 1 (.tmp 4)), []⟩, [4], .pure),
      (⟨(some 6), .plain (.load 1 false (.tmp 5)), []⟩, [5], .peek),
      (⟨(some 7), .plain (.sdata (.tmp 6)), []⟩, [6], .pure),
      (⟨(some 8), .plain (.move (.tmp 0)), []⟩, [0], .pure),
      (⟨(some 9), .plain (.nilCheck (.tmp 8)), []⟩, [8], .pure),
      (⟨(some 10), .plain (.fieldAddr 1 (.tmp 9)), []⟩, [9], .pure),
      (⟨(some 11), .plain (.load 1 false (.tmp 10)), []⟩, [10], .peek),
      (⟨(some 12), .plain (.len false (.tmp 11)), []⟩, [11], .pure),
      (⟨(some 13), .plain (.ustr (.tmp 7) (.tmp 12)), []⟩, [7, 12], .lone true []),
      (⟨(some 2), .plain (.move (.tmp 13)), []⟩, [13], .pure)])
  (.ret))⟩
theorem comp32 : compF Try.prog an32 Try.f32 = some ir32 := by kernel_rfl
theorem lps32 : loopsF Try.prog an32 Try.f32 = [] := by kernel_rfl
/-- (*noonmark/rope.Rope).lineFeeds -/
def an33 : An := (.s .z (.s (.s .z (.s (.s .z .z) .z)) (.s .z .z)))
def ir33 : IFun := ⟨9, [.tmp 2],
  .seq (.region [⟨(some 2), .plain (.move (.const (.int .i64 (0)))), []⟩])
  (.seq (.seq (.region [⟨(some 3), .plain (.move (.tmp 0)), []⟩,
        ⟨(some 4), .plain (.isNil .ptr false (.tmp 3)), []⟩])
    (.cond (.tmp 4) (.seq (.region [⟨(some 2), .plain (.move (.const (.int .i64 (0)))), []⟩])
      (.ret))
    (.skip)))
  (.seq (.region [⟨(some 5), .plain (.move (.tmp 0)), []⟩,
      ⟨(some 6), .plain (.nilCheck (.tmp 5)), []⟩,
      ⟨(some 7), .plain (.fieldAddr 4 (.tmp 6)), []⟩,
      ⟨(some 8), .plain (.load 1 false (.tmp 7)), []⟩,
      ⟨(some 2), .plain (.move (.tmp 8)), []⟩])
  (.ret)))⟩
theorem comp33 : compF Try.prog an33 Try.f33 = some ir33 := by kernel_rfl
theorem lps33 : loopsF Try.prog an33 Try.f33 = [] := by kernel_rfl
/-- (*noonmark/rope.Rope).down -/
def an34 : An := (.s .z (.s .z (.s (.b (.l 3400 [0, 1, 2, 9, 10] (.s (.s .z (.s .z .z)) (.b (.s .z (.s .z (.s .z (.s .z (.s .z .z))))))))) (.s .z .z))))
def lb3400 : IC :=
  .seq (.seq (.region [⟨(some 12), .plain (.move (.tmp 0)), []⟩,
        ⟨(some 13), .plain (.isNil .ptr true (.tmp 12)), []⟩,
        ⟨(some 14), .plain (.move (.tmp 13)), []⟩,
        ⟨(some 15), .plain (.move (.tmp 0)), [(14, true)]⟩,
        ⟨(some 16), .plain (.nilCheck (.tmp 15)), [(14, true)]⟩,
        ⟨(some 17), .plain (.fieldAddr 5 (.tmp 16)), [(14, true)]⟩,
        ⟨(some 18), .plain (.load 1 false (.tmp 17)), [(14, true)]⟩,
        ⟨(some 19), .plain (.bin .gtr (.tmp 18) (.const (.int .i64 (1)))), [(14, true)]⟩,
        ⟨(some 20), .plain (.pick (.tmp 14) (.tmp 19) (.const (.bool false))), []⟩])
    (.cond (.tmp 20) (.skip)
    (.exit 0)))
  (.block 1 (.seq (.region [⟨(some 21), .plain (.move (.tmp 1)), []⟩,
        ⟨(some 22), .plain (.move (.tmp 0)), []⟩,
        ⟨(some 23), .plain (.nilCheck (.tmp 22)), []⟩,
        ⟨(some 24), .plain (.fieldAddr 1 (.tmp 23)), []⟩,
        ⟨(some 25), .plain (.load 1 false (.tmp 24)), []⟩,
        ⟨(some 26), .callV (.tmp 21) [(.tmp 25)], []⟩,
        ⟨(some 11), .plain (.move (.tmp 26)), []⟩])
    (.seq (.region [⟨(some 27), .plain (.move (.tmp 2)), []⟩,
        ⟨(some 28), .plain (.move (.tmp 11)), []⟩,
        ⟨(some 29), .plain (.bin .lss (.tmp 27) (.tmp 28)), []⟩])
    (.cond (.tmp 29) (.region [⟨(some 30), .plain (.move (.tmp 0)), []⟩,
        ⟨(some 31), .plain (.nilCheck (.tmp 30)), []⟩,
        ⟨(some 32), .plain (.fieldAddr 1 (.tmp 31)), []⟩,
        ⟨(some 33), .plain (.load 1 false (.tmp 32)), []⟩,
        ⟨(some 0), .plain (.move (.tmp 33)), []⟩])
    (.seq (.region [⟨(some 34), .plain (.move (.tmp 2)), []⟩,
          ⟨(some 35), .plain (.move (.tmp 11)), []⟩,
          ⟨(some 36), .plain (.bin .sub (.tmp 34) (.tmp 35)), []⟩,
          ⟨(some 2), .plain (.move (.tmp 36)), []⟩])
      (.seq (.draws [(⟨(some 37), .plain (.move (.tmp 9)), []⟩, [9], .pure),
          (⟨(some 38), .plain (.move (.tmp 0)), []⟩, [0], .pure),
          (⟨(some 39), .plain (.nilCheck (.tmp 38)), []⟩, [38], .pure),
          (⟨(some 40), .plain (.fieldAddr 1 (.tmp 39)), []⟩, [39], .pure),
          (⟨(some 41), .plain (.load 1 false (.tmp 40)), []⟩, [40], .peek),
          (⟨(some 42), .plain (.nilCheck (.tmp 41)), []⟩, [41], .pure),
          (⟨(some 43), .plain (.fieldAddr 3 (.tmp 42)), []⟩, [42], .pure),
          (⟨(some 44), .plain (.load 1 false (.tmp 43)), []⟩, [43], .peek),
          (⟨(some 45), .plain (.bin .add (.tmp 37) (.tmp 44)), []⟩, [37, 44], .pure),
          (⟨(some 46), .plain (.move (.tmp 10)), []⟩, [10], .pure),
          (⟨(some 47), .plain (.move (.tmp 0)), []⟩, [0], .pure),
          (⟨(some 48), .plain (.nilCheck (.tmp 47)), []⟩, [47], .pure),
          (⟨(some 49), .plain (.fieldAddr 1 (.tmp 48)), []⟩, [48], .pure),
          (⟨(some 50), .plain (.load 1 false (.tmp 49)), []⟩, [49], .peek),
          (⟨(some 51), .plain (.nilCheck (.tmp 50)), []⟩, [50], .pure),
          (⟨(some 52), .plain (.fieldAddr 4 (.tmp 51)), []⟩, [51], .pure),
          (⟨(some 53), .plain (.load 1 false (.tmp 52)), []⟩, [52], .peek),
          (⟨(some 54), .plain (.bin .add (.tmp 46) (.tmp 53)), []⟩, [46, 53], .pure),
          (⟨(some 9), .plain (.move (.tmp 45)), []⟩, [45], .pure),
          (⟨(some 10), .plain (.move (.tmp 54)), []⟩, [54], .pure)])
      (.region [⟨(some 55), .plain (.move (.tmp 0)), []⟩,
        ⟨(some 56), .plain (.nilCheck (.tmp 55)), []⟩,
        ⟨(some 57), .plain (.fieldAddr 2 (.tmp 56)), []⟩,
        ⟨(some 58), .plain (.load 1 false (.tmp 57)), []⟩,
        ⟨(some 0), .plain (.move (.tmp 58)), []⟩])))))))
def ir34 : IFun := ⟨62, [.tmp 6, .tmp 7, .tmp 8],
  .seq (.region [⟨(some 6), .plain (.move (.const (.pointer none))), []⟩,
      ⟨(some 7), .plain (.move (.const (.int .i64 (0)))), []⟩,
      ⟨(some 8), .plain (.move (.const (.int .i64 (0)))), []⟩])
  (.seq (.region [⟨(some 9), .plain (.move (.const (.int .i64 (0)))), []⟩,
      ⟨(some 10), .plain (.move (.const (.int .i64 (0)))), []⟩])
  (.seq (.block 0 (.loop 3400 [0, 1, 2, 9, 10]))
  (.seq (.region [⟨(some 59), .plain (.move (.tmp 0)), []⟩,
      ⟨(some 60), .plain (.move (.tmp 9)), []⟩,
      ⟨(some 61), .plain (.move (.tmp 10)), []⟩,
      ⟨(some 6), .plain (.move (.tmp 59)), []⟩,
      ⟨(some 7), .plain (.move (.tmp 60)), []⟩,
      ⟨(some 8), .plain (.move (.tmp 61)), []⟩])
  (.ret))))⟩
theorem comp34 : compF Try.prog an34 Try.f34 = some ir34 := by kernel_rfl
theorem lps34 : loopsF Try.prog an34 Try.f34 = [(3400, [0, 1, 2, 9, 10], some lb3400)] := by kernel_rfl
/-- (*noonmark/rope.Rope).begin -/
def an36 : An := (.s .z (.s (.s .z (.s (.s .z .z) .z)) (.s .z (.s .z (.s (.s .z (.b (.l 3600 [5, 6, 8, 21, 22] (.s .z (.s (.s .z .z) (.s (.b .z) .z)))))) (.s .z .z))))))
def lb3600 : IC :=
  .seq (.region [⟨(some 23), .plain (.bin .lss (.tmp 22) (.tmp 21)), []⟩])
  (.seq (.cond (.tmp 23) (.skip)
    (.exit 0))
  (.seq (.block 1 (.region [⟨(some 24), .plain (.move (.tmp 8)), []⟩,
        ⟨(some 25), .plain (.move (.tmp 5)), []⟩,
        ⟨(some 26), .plain (.nilCheck (.tmp 25)), []⟩,
        ⟨(some 27), .plain (.fieldAddr 0 (.tmp 26)), []⟩,
        ⟨(some 28), .plain (.load 1 false (.tmp 27)), []⟩,
        ⟨(some 29), .plain (.move (.tmp 8)), []⟩,
        ⟨(some 30), .plain (.cutStr (.tmp 28) (some (.tmp 29)) none), []⟩,
        ⟨(some 31), .call 45 [(.tmp 30), (.const (.int .u8 (10)))], []⟩,
        ⟨(some 32), .plain (.bin .add (.tmp 31) (.const (.int .i64 (1)))), []⟩,
        ⟨(some 33), .plain (.bin .add (.tmp 24) (.tmp 32)), []⟩,
        ⟨(some 8), .plain (.move (.tmp 33)), []⟩]))
  (.region [⟨(some 34), .plain (.bin .add (.tmp 22) (.const (.int .i64 (1)))), []⟩,
    ⟨(some 22), .plain (.move (.tmp 34)), []⟩])))
def ir36 : IFun := ⟨38, [.tmp 4],
  .seq (.region [⟨(some 4), .plain (.move (.const (.int .i64 (0)))), []⟩])
  (.seq (.seq (.region [⟨(some 9), .plain (.move (.tmp 1)), []⟩,
        ⟨(some 10), .plain (.bin .eql (.tmp 9) (.const (.int .i64 (0)))), []⟩])
    (.cond (.tmp 10) (.seq (.region [⟨(some 4), .plain (.move (.const (.int .i64 (0)))), []⟩])
      (.ret))
    (.skip)))
  (.seq (.region [⟨(some 12), .plain (.move (.tmp 0)), []⟩,
      ⟨(some 13), .plain (.move (.tmp 1)), []⟩,
      ⟨(some 14), .plain (.bin .sub (.tmp 13) (.const (.int .i64 (1)))), []⟩,
      ⟨(some 15), .call 34 [(.tmp 12), (.func 33), (.tmp 14)], []⟩,
      ⟨(some 11), .plain (.move (.tmp 15)), []⟩,
      ⟨(some 16), .plain (.extract 0 (.tmp 11)), []⟩,
      ⟨(some 17), .plain (.extract 1 (.tmp 11)), []⟩,
      ⟨(some 18), .plain (.extract 2 (.tmp 11)), []⟩,
      ⟨(some 5), .plain (.move (.tmp 16)), []⟩,
      ⟨(some 6), .plain (.move (.tmp 17)), []⟩,
      ⟨(some 7), .plain (.move (.tmp 18)), []⟩])
  (.seq (.region [⟨(some 8), .plain (.move (.const (.int .i64 (0)))), []⟩])
  (.seq (.seq (.region [⟨(some 19), .plain (.move (.tmp 1)), []⟩,
        ⟨(some 20), .plain (.move (.tmp 7)), []⟩,
        ⟨(some 21), .plain (.bin .sub (.tmp 19) (.tmp 20)), []⟩,
        ⟨(some 22), .plain (.move (.const (.int .i64 (0)))), []⟩])
    (.block 0 (.loop 3600 [5, 6, 8, 21, 22])))
  (.seq (.region [⟨(some 35), .plain (.move (.tmp 6)), []⟩,
      ⟨(some 36), .plain (.move (.tmp 8)), []⟩,
      ⟨(some 37), .plain (.bin .add (.tmp 35) (.tmp 36)), []⟩,
      ⟨(some 4), .plain (.move (.tmp 37)), []⟩])
  (.ret))))))⟩
theorem comp36 : compF Try.prog an36 Try.f36 = some ir36 := by kernel_rfl
theorem lps36 : loopsF Try.prog an36 Try.f36 = [(3600, [5, 6, 8, 21, 22], some lb3600)] := by kernel_rfl
/-- (*noonmark/rope.Rope).end -/
def an37 : An := (.s .z (.s (.s .z (.s (.s .z .z) .z)) (.s .z .z)))
def ir37 : IFun := ⟨17, [.tmp 4],
  .seq (.region [⟨(some 4), .plain (.move (.const (.int .i64 (0)))), []⟩])
  (.seq (.seq (.region [⟨(some 5), .plain (.move (.tmp 1)), []⟩,
        ⟨(some 6), .plain (.bin .add (.tmp 5) (.const (.int .i64 (1)))), []⟩,
        ⟨(some 7), .plain (.move (.tmp 0)), []⟩,
        ⟨(some 8), .call 16 [(.tmp 7)], []⟩,
        ⟨(some 9), .plain (.bin .lss (.tmp 6) (.tmp 8)), []⟩])
    (.cond (.tmp 9) (.seq (.region [⟨(some 10), .plain (.move (.tmp 0)), []⟩,
          ⟨(some 11), .plain (.move (.tmp 1)), []⟩,
          ⟨(some 12), .plain (.bin .add (.tmp 11) (.const (.int .i64 (1)))), []⟩,
          ⟨(some 13), .call 36 [(.tmp 10), (.tmp 12)], []⟩,
          ⟨(some 14), .plain (.bin .sub (.tmp 13) (.const (.int .i64 (1)))), []⟩,
          ⟨(some 4), .plain (.move (.tmp 14)), []⟩])
      (.ret))
    (.skip)))
  (.seq (.region [⟨(some 15), .plain (.move (.tmp 0)), []⟩,
      ⟨(some 16), .call 12 [(.tmp 15)], []⟩,
      ⟨(some 4), .plain (.move (.tmp 16)), []⟩])
  (.ret)))⟩
theorem comp37 : compF Try.prog an37 Try.f37 = some ir37 := by kernel_rfl
theorem lps37 : loopsF Try.prog an37 Try.f37 = [] := by kernel_rfl
/-- noonmark/rope.leaf -/
def an38 : An := (.s .z (.s (.s .z (.s (.s .z .z) .z)) (.s .z .z)))
def ir38 : IFun := ⟨12, [.tmp 2],
  .seq (.region [⟨(some 2), .plain (.move (.const (.pointer none))), []⟩])
  (.seq (.seq (.region [⟨(some 3), .plain (.move (.tmp 0)), []⟩,
        ⟨(some 4), .plain (.bin .eql (.tmp 3) (.const (.string ⟨#[]⟩))), []⟩])
    (.cond (.tmp 4) (.seq (.region [⟨(some 2), .plain (.move (.const (.pointer none))), []⟩])
      (.ret))
    (.skip)))
  (.seq (.region [⟨(some 5), .plain (.move (.tmp 0)), []⟩,
      ⟨(some 6), .plain (.move (.tmp 0)), []⟩,
      ⟨(some 7), .plain (.len true (.tmp 6)), []⟩,
      ⟨(some 8), .plain (.move (.tmp 0)), []⟩,
      ⟨(some 9), .call 35 [(.tmp 8), (.const (.string ⟨#[10]⟩))], []⟩,
      ⟨(some 10), .plain (.build [(0, 1), (1, 1), (2, 1), (3, 1), (4, 1), (5, 1)] [(.string ⟨#[]⟩), (.pointer none), (.pointer none), (.int .i64 (0)), (.int .i64 (0)), (.int .i64 (0))] [(0, (.tmp 5)), (3, (.tmp 7)), (4, (.tmp 9)), (5, (.const (.int .i64 (1))))]), []⟩,
      ⟨(some 11), .plain (.box 0 (.tmp 10)), []⟩,
      ⟨(some 2), .plain (.move (.tmp 11)), []⟩])
  (.ret)))⟩
theorem comp38 : compF Try.prog an38 Try.f38 = some ir38 := by kernel_rfl
theorem lps38 : loopsF Try.prog an38 Try.f38 = [] := by kernel_rfl
/-- noonmark/rope.level -/
def an39 : An := (.s .z (.s (.s .z (.b (.s .z (.s (.s (.s .z (.s (.s .z .z) .z)) (.s .z .z)) (.s .z (.s (.s (.s .z (.s (.s .z .z) .z)) (.s .z .z)) .z)))))) (.s .z .z)))
def ir39 : IFun := ⟨108, [.tmp 4],
  .seq (.region [⟨(some 4), .plain (.move (.const (.pointer none))), []⟩])
  (.seq (.seq (.region [⟨(some 6), .plain (.move (.tmp 0)), []⟩,
        ⟨(some 7), .call 18 [(.tmp 6)], []⟩,
        ⟨(some 8), .plain (.move (.tmp 1)), []⟩,
        ⟨(some 9), .call 18 [(.tmp 8)], []⟩,
        ⟨(some 10), .plain (.bin .sub (.tmp 7) (.tmp 9)), []⟩,
        ⟨(some 5), .plain (.move (.tmp 10)), []⟩])
    (.block 0 (.seq (.region [⟨(some 12), .plain (.move (.tmp 5)), []⟩,
          ⟨(some 13), .plain (.bin .gtr (.tmp 12) (.const (.int .i64 (1)))), []⟩,
          ⟨(some 11), .plain (.move (.tmp 13)), []⟩])
      (.cond (.tmp 11) (.seq (.seq (.draws [(⟨(some 14), .plain (.move (.tmp 0)), []⟩, [0], .pure),
              (⟨(some 15), .plain (.nilCheck (.tmp 14)), []⟩, [14], .pure),
              (⟨(some 16), .plain (.fieldAddr 1 (.tmp 15)), []⟩, [15], .pure),
              (⟨(some 17), .plain (.load 1 false (.tmp 16)), []⟩, [16], .peek),
              (⟨(some 18), .call 18 [(.tmp 17)], []⟩, [17], .quiet),
              (⟨(some 19), .plain (.move (.tmp 0)), []⟩, [0], .pure),
              (⟨(some 20), .plain (.nilCheck (.tmp 19)), []⟩, [19], .pure),
              (⟨(some 21), .plain (.fieldAddr 2 (.tmp 20)), []⟩, [20], .pure),
              (⟨(some 22), .plain (.load 1 false (.tmp 21)), []⟩, [21], .peek),
              (⟨(some 23), .call 18 [(.tmp 22)], []⟩, [22], .quiet),
              (⟨(some 24), .plain (.bin .geq (.tmp 18) (.tmp 23)), []⟩, [18, 23], .pure)])
          (.cond (.tmp 24) (.seq (.draws [(⟨(some 25), .plain (.move (.tmp 0)), []⟩, [0], .pure),
                (⟨(some 26), .plain (.nilCheck (.tmp 25)), []⟩, [25], .pure),
                (⟨(some 27), .plain (.fieldAddr 1 (.tmp 26)), []⟩, [26], .pure),
                (⟨(some 28), .plain (.load 1 false (.tmp 27)), []⟩, [27], .peek),
                (⟨(some 29), .plain (.move (.tmp 0)), []⟩, [0], .pure),
                (⟨(some 30), .plain (.nilCheck (.tmp 29)), []⟩, [29], .pure),
                (⟨(some 31), .plain (.fieldAddr 2 (.tmp 30)), []⟩, [30], .pure),
                (⟨(some 32), .plain (.load 1 false (.tmp 31)), []⟩, [31], .peek),
                (⟨(some 33), .plain (.move (.tmp 1)), []⟩, [1], .pure),
                (⟨(some 34), .call 40 [(.tmp 32), (.tmp 33)], []⟩, [32, 33], .quiet),
                (⟨(some 35), .call 40 [(.tmp 28), (.tmp 34)], []⟩, [28, 34], .quiet),
                (⟨(some 4), .plain (.move (.tmp 35)), []⟩, [35], .pure)])
            (.ret))
          (.skip)))
        (.seq (.draws [(⟨(some 36), .plain (.move (.tmp 0)), []⟩, [0], .pure),
            (⟨(some 37), .plain (.nilCheck (.tmp 36)), []⟩, [36], .pure),
            (⟨(some 38), .plain (.fieldAddr 1 (.tmp 37)), []⟩, [37], .pure),
            (⟨(some 39), .plain (.load 1 false (.tmp 38)), []⟩, [38], .peek),
            (⟨(some 40), .plain (.move (.tmp 0)), []⟩, [0], .pure),
            (⟨(some 41), .plain (.nilCheck (.tmp 40)), []⟩, [40], .pure),
            (⟨(some 42), .plain (.fieldAddr 2 (.tmp 41)), []⟩, [41], .pure),
            (⟨(some 43), .plain (.load 1 false (.tmp 42)), []⟩, [42], .peek),
            (⟨(some 44), .plain (.nilCheck (.tmp 43)), []⟩, [43], .pure),
            (⟨(some 45), .plain (.fieldAddr 1 (.tmp 44)), []⟩, [44], .pure),
            (⟨(some 46), .plain (.load 1 false (.tmp 45)), []⟩, [45], .peek),
            (⟨(some 47), .call 40 [(.tmp 39), (.tmp 46)], []⟩, [39, 46], .quiet),
            (⟨(some 48), .plain (.move (.tmp 0)), []⟩, [0], .pure),
            (⟨(some 49), .plain (.nilCheck (.tmp 48)), []⟩, [48], .pure),
            (⟨(some 50), .plain (.fieldAddr 2 (.tmp 49)), []⟩, [49], .pure),
            (⟨(some 51), .plain (.load 1 false (.tmp 50)), []⟩, [50], .peek),
            (⟨(some 52), .plain (.nilCheck (.tmp 51)), []⟩, [51], .pure),
            (⟨(some 53), .plain (.fieldAddr 2 (.tmp 52)), []⟩, [52], .pure),
            (⟨(some 54), .plain (.load 1 false (.tmp 53)), []⟩, [53], .peek),
            (⟨(some 55), .plain (.move (.tmp 1)), []⟩, [1], .pure),
            (⟨(some 56), .call 40 [(.tmp 54), (.tmp 55)], []⟩, [54, 55], .quiet),
            (⟨(some 57), .call 40 [(.tmp 47), (.tmp 56)], []⟩, [47, 56], .quiet),
            (⟨(some 4), .plain (.move (.tmp 57)), []⟩, [57], .pure)])
        (.ret)))
      (.seq (.region [⟨(some 59), .plain (.move (.tmp 5)), []⟩,
            ⟨(some 60), .plain (.bin .lss (.tmp 59) (.const (.int .i64 (-1)))), []⟩,
            ⟨(some 58), .plain (.move (.tmp 60)), []⟩])
        (.cond (.tmp 58) (.seq (.seq (.draws [(⟨(some 61), .plain (.move (.tmp 1)), []⟩, [1], .pure),
                (⟨(some 62), .plain (.nilCheck (.tmp 61)), []⟩, [61], .pure),
                (⟨(some 63), .plain (.fieldAddr 2 (.tmp 62)), []⟩, [62], .pure),
                (⟨(some 64), .plain (.load 1 false (.tmp 63)), []⟩, [63], .peek),
                (⟨(some 65), .call 18 [(.tmp 64)], []⟩, [64], .quiet),
                (⟨(some 66), .plain (.move (.tmp 1)), []⟩, [1], .pure),
                (⟨(some 67), .plain (.nilCheck (.tmp 66)), []⟩, [66], .pure),
                (⟨(some 68), .plain (.fieldAddr 1 (.tmp 67)), []⟩, [67], .pure),
                (⟨(some 69), .plain (.load 1 false (.tmp 68)), []⟩, [68], .peek),
                (⟨(some 70), .call 18 [(.tmp 69)], []⟩, [69], .quiet),
                (⟨(some 71), .plain (.bin .geq (.tmp 65) (.tmp 70)), []⟩, [65, 70], .pure)])
            (.cond (.tmp 71) (.seq (.draws [(⟨(some 72), .plain (.move (.tmp 0)), []⟩, [0], .pure),
                  (⟨(some 73), .plain (.move (.tmp 1)), []⟩, [1], .pure),
                  (⟨(some 74), .plain (.nilCheck (.tmp 73)), []⟩, [73], .pure),
                  (⟨(some 75), .plain (.fieldAddr 1 (.tmp 74)), []⟩, [74], .pure),
                  (⟨(some 76), .plain (.load 1 false (.tmp 75)), []⟩, [75], .peek),
                  (⟨(some 77), .call 40 [(.tmp 72), (.tmp 76)], []⟩, [72, 76], .quiet),
                  (⟨(some 78), .plain (.move (.tmp 1)), []⟩, [1], .pure),
                  (⟨(some 79), .plain (.nilCheck (.tmp 78)), []⟩, [78], .pure),
                  (⟨(some 80), .plain (.fieldAddr 2 (.tmp 79)), []⟩, [79], .pure),
                  (⟨(some 81), .plain (.load 1 false (.tmp 80)), []⟩, [80], .peek),
                  (⟨(some 82), .call 40 [(.tmp 77), (.tmp 81)], []⟩, [77, 81], .quiet),
                  (⟨(some 4), .plain (.move (.tmp 82)), []⟩, [82], .pure)])
              (.ret))
            (.skip)))
          (.seq (.draws [(⟨(some 83), .plain (.move (.tmp 0)), []⟩, [0], .pure),
              (⟨(some 84), .plain (.move (.tmp 1)), []⟩, [1], .pure),
              (⟨(some 85), .plain (.nilCheck (.tmp 84)), []⟩, [84], .pure),
              (⟨(some 86), .plain (.fieldAddr 1 (.tmp 85)), []⟩, [85], .pure),
              (⟨(some 87), .plain (.load 1 false (.tmp 86)), []⟩, [86], .peek),
              (⟨(some 88), .plain (.nilCheck (.tmp 87)), []⟩, [87], .pure),
              (⟨(some 89), .plain (.fieldAddr 1 (.tmp 88)), []⟩, [88], .pure),
              (⟨(some 90), .plain (.load 1 false (.tmp 89)), []⟩, [89], .peek),
              (⟨(some 91), .call 40 [(.tmp 83), (.tmp 90)], []⟩, [83, 90], .quiet),
              (⟨(some 92), .plain (.move (.tmp 1)), []⟩, [1], .pure),
              (⟨(some 93), .plain (.nilCheck (.tmp 92)), []⟩, [92], .pure),
              (⟨(some 94), .plain (.fieldAddr 1 (.tmp 93)), []⟩, [93], .pure),
              (⟨(some 95), .plain (.load 1 false (.tmp 94)), []⟩, [94], .peek),
              (⟨(some 96), .plain (.nilCheck (.tmp 95)), []⟩, [95], .pure),
              (⟨(some 97), .plain (.fieldAddr 2 (.tmp 96)), []⟩, [96], .pure),
              (⟨(some 98), .plain (.load 1 false (.tmp 97)), []⟩, [97], .peek),
              (⟨(some 99), .plain (.move (.tmp 1)), []⟩, [1], .pure),
              (⟨(some 100), .plain (.nilCheck (.tmp 99)), []⟩, [99], .pure),
              (⟨(some 101), .plain (.fieldAddr 2 (.tmp 100)), []⟩, [100], .pure),
              (⟨(some 102), .plain (.load 1 false (.tmp 101)), []⟩, [101], .peek),
              (⟨(some 103), .call 40 [(.tmp 98), (.tmp 102)], []⟩, [98, 102], .quiet),
              (⟨(some 104), .call 40 [(.tmp 91), (.tmp 103)], []⟩, [91, 103], .quiet),
              (⟨(some 4), .plain (.move (.tmp 104)), []⟩, [104], .pure)])
          (.ret)))
        (.skip)))))))
  (.seq (.region [⟨(some 105), .plain (.move (.tmp 0)), []⟩,
      ⟨(some 106), .plain (.move (.tmp 1)), []⟩,
      ⟨(some 107), .call 40 [(.tmp 105), (.tmp 106)], []⟩,
      ⟨(some 4), .plain (.move (.tmp 107)), []⟩])
  (.ret)))⟩
theorem comp39 : compF Try.prog an39 Try.f39 = some ir39 := by kernel_rfl
theorem lps39 : loopsF Try.prog an39 Try.f39 = [] := by kernel_rfl
/-- noonmark/rope.both -/
def an40 : An := (.s .z (.s .z .z))
def ir40 : IFun := ⟨25, [.tmp 4],
  .seq (.region [⟨(some 4), .plain (.move (.const (.pointer none))), []⟩])
  (.seq (.region [⟨(some 5), .plain (.move (.tmp 0)), []⟩,
      ⟨(some 6), .plain (.move (.tmp 1)), []⟩,
      ⟨(some 7), .plain (.move (.tmp 0)), []⟩,
      ⟨(some 8), .call 12 [(.tmp 7)], []⟩,
      ⟨(some 9), .plain (.move (.tmp 1)), []⟩,
      ⟨(some 10), .call 12 [(.tmp 9)], []⟩,
      ⟨(some 11), .plain (.bin .add (.tmp 8) (.tmp 10)), []⟩,
      ⟨(some 12), .plain (.move (.tmp 0)), []⟩,
      ⟨(some 13), .call 33 [(.tmp 12)], []⟩,
      ⟨(some 14), .plain (.move (.tmp 1)), []⟩,
      ⟨(some 15), .call 33 [(.tmp 14)], []⟩,
      ⟨(some 16), .plain (.bin .add (.tmp 13) (.tmp 15)), []⟩,
      ⟨(some 17), .plain (.move (.tmp 0)), []⟩,
      ⟨(some 18), .call 18 [(.tmp 17)], []⟩,
      ⟨(some 19), .plain (.move (.tmp 1)), []⟩,
      ⟨(some 20), .call 18 [(.tmp 19)], []⟩,
      ⟨(some 21), .plain (.mm true [(.tmp 18), (.tmp 20)]), []⟩,
      ⟨(some 22), .plain (.bin .add (.tmp 21) (.const (.int .i64 (1)))), []⟩,
      ⟨(some 23), .plain (.build [(0, 1), (1, 1), (2, 1), (3, 1), (4, 1), (5, 1)] [(.string ⟨#[]⟩), (.pointer none), (.pointer none), (.int .i64 (0)), (.int .i64 (0)), (.int .i64 (0))] [(1, (.tmp 5)), (2, (.tmp 6)), (3, (.tmp 11)), (4, (.tmp 16)), (5, (.tmp 22))]), []⟩,
      ⟨(some 24), .plain (.box 0 (.tmp 23)), []⟩,
      ⟨(some 4), .plain (.move (.tmp 24)), []⟩])
  (.ret))⟩
theorem comp40 : compF Try.prog an40 Try.f40 = some ir40 := by kernel_rfl
theorem lps40 : loopsF Try.prog an40 Try.f40 = [] := by kernel_rfl
/-- (*strings.Builder).WriteString -/
def an41 : An := (.s .z (.s .z (.s .z (.s .z .z))))
def ir41 : IFun := ⟨19, [.tmp 4, .tmp 5],
  .seq (.region [⟨(some 4), .plain (.move (.const (.int .i64 (0)))), []⟩,
      ⟨(some 5), .plain (.move (.const .nilIface)), []⟩])
  (.seq (.region [⟨(some 6), .plain (.move (.tmp 0)), []⟩,
      ⟨(some 7), .call 46 [(.tmp 6)], []⟩])
  (.seq (.region [⟨(some 8), .plain (.move (.tmp 0)), []⟩,
      ⟨(some 9), .plain (.move (.tmp 0)), []⟩,
      ⟨(some 10), .plain (.nilCheck (.tmp 9)), []⟩,
      ⟨(some 11), .plain (.fieldAddr 1 (.tmp 10)), []⟩,
      ⟨(some 12), .plain (.load 1 false (.tmp 11)), []⟩,
      ⟨(some 13), .plain (.move (.tmp 1)), []⟩,
      ⟨(some 14), .plain (.app true 4294967295 1 (.tmp 12) (.tmp 13)), []⟩,
      ⟨(some 15), .plain (.nilCheck (.tmp 8)), []⟩,
      ⟨(some 16), .plain (.fieldAddr 1 (.tmp 15)), []⟩,
      ⟨none, .plain (.store 1 (.tmp 16) (.tmp 14)), []⟩])
  (.seq (.region [⟨(some 17), .plain (.move (.tmp 1)), []⟩,
      ⟨(some 18), .plain (.len true (.tmp 17)), []⟩,
      ⟨(some 4), .plain (.move (.tmp 18)), []⟩,
      ⟨(some 5), .plain (.move (.const .nilIface)), []⟩])
  (.ret))))⟩
theorem comp41 : compF Try.prog an41 Try.f41 = some ir41 := by kernel_rfl
theorem lps41 : loopsF Try.prog an41 Try.f41 = [] := by kernel_rfl
/-- strings.IndexByte -/
def an45 : An := (.s .z (.s .z .z))
def ir45 : IFun := ⟨8, [.tmp 4],
  .seq (.region [⟨(some 4), .plain (.move (.const (.int .i64 (0)))), []⟩])
  (.seq (.region [⟨(some 5), .plain (.move (.tmp 0)), []⟩,
      ⟨(some 6), .plain (.move (.tmp 1)), []⟩,
      ⟨(some 7), .call 48 [(.tmp 5), (.tmp 6)], []⟩,
      ⟨(some 4), .plain (.move (.tmp 7)), []⟩])
  (.ret))⟩
theorem comp45 : compF Try.prog an45 Try.f45 = some ir45 := by kernel_rfl
theorem lps45 : loopsF Try.prog an45 Try.f45 = [] := by kernel_rfl
/-- (*strings.Builder).copyCheck -/
def an46 : An := (.s .z (.s .z (.s .z (.s .z .z))))
def ir46 : IFun := ⟨20, [],
  .seq (.region [⟨(some 2), .plain (.move (.tmp 0)), []⟩,
      ⟨(some 3), .plain (.nilCheck (.tmp 2)), []⟩,
      ⟨(some 4), .plain (.fieldAddr 0 (.tmp 3)), []⟩,
      ⟨(some 5), .plain (.load 1 false (.tmp 4)), []⟩,
      ⟨(some 6), .plain (.isNil .ptr false (.tmp 5)), []⟩])
  (.cond (.tmp 6) (.region [⟨(some 7), .plain (.move (.tmp 0)), []⟩,
      ⟨(some 8), .plain (.move (.tmp 0)), []⟩,
      ⟨(some 9), .plain (.toUns (.tmp 8)), []⟩,
      ⟨(some 10), .call 49 [(.tmp 9)], []⟩,
      ⟨(some 11), .plain (.fromUns 61 2 (.tmp 10)), []⟩,
      ⟨(some 12), .plain (.nilCheck (.tmp 7)), []⟩,
      ⟨(some 13), .plain (.fieldAddr 0 (.tmp 12)), []⟩,
      ⟨none, .plain (.store 1 (.tmp 13) (.tmp 11)), []⟩])
  (.seq (.region [⟨(some 14), .plain (.move (.tmp 0)), []⟩,
        ⟨(some 15), .plain (.nilCheck (.tmp 14)), []⟩,
        ⟨(some 16), .plain (.fieldAddr 0 (.tmp 15)), []⟩,
        ⟨(some 17), .plain (.load 1 false (.tmp 16)), []⟩,
        ⟨(some 18), .plain (.move (.tmp 0)), []⟩,
        ⟨(some 19), .plain (.eqP true (.tmp 17) (.tmp 18)), []⟩])
    (.cond (.tmp 19) (.cond (.const (.int .i64 (0))) (.skip)
      (.skip))
    (.skip))))⟩
theorem comp46 : compF Try.prog an46 Try.f46 = some ir46 := by kernel_rfl
theorem lps46 : loopsF Try.prog an46 Try.f46 = [] := by kernel_rfl
def irsT : List (Nat × IFun) := [(3, ir3), (4, ir4), (5, ir5), (6, ir6), (7, ir7), (8, ir8), (9, ir9), (10, ir10), (11, ir11), (12, ir12), (13, ir13), (14, ir14), (15, ir15), (16, ir16), (17, ir17), (18, ir18), (19, ir19), (20, ir20), (21, ir21), (22, ir22), (23, ir23), (24, ir24), (25, ir25), (26, ir26), (27, ir27), (28, ir28), (29, ir29), (30, ir30), (31, ir31), (32, ir32), (33, ir33), (34, ir34), (36, ir36), (37, ir37), (38, ir38), (39, ir39), (40, ir40), (41, ir41), (45, ir45), (46, ir46)]
def lpsT : List (Nat × List Nat × IC) := [(300, [0, 1, 4, 5, 6, 7], lb300), (400, [1, 4, 5, 6, 7], lb400), (600, [10, 11, 20, 21], lb600), (700, [0, 1, 5, 7], lb700), (900, [1, 4, 5], lb900), (1700, [0, 3, 4, 5], lb1700), (1900, [0, 1, 7, 9], lb1900), (2500, [1, 2, 8, 9, 10], lb2500), (3100, [1, 22, 23], lb3100), (3400, [0, 1, 2, 9, 10], lb3400), (3600, [5, 6, 8, 21, 22], lb3600)]
/-- The code, with what is given. -/
def CC (gv : FuncId → Option (List Value → Mem → Option (Value × Mem))) : Code? := ⟨look irsT, look lpsT, gv⟩
theorem CC_fit (gv : FuncId → Option (List Value → Mem → Option (Value × Mem))) : ∀ f fn, (CC gv).irs f = some fn → FitF Try.prog (CC gv) f fn := by
  intro f fn h
  have hm := look_mem h
  simp only [irsT, List.mem_cons, List.not_mem_nil, or_false, Prod.mk.injEq] at hm
  rcases hm with ⟨rfl, rfl⟩ | ⟨rfl, rfl⟩ | ⟨rfl, rfl⟩ | ⟨rfl, rfl⟩ | ⟨rfl, rfl⟩ | ⟨rfl, rfl⟩ | ⟨rfl, rfl⟩ | ⟨rfl, rfl⟩ | ⟨rfl, rfl⟩ | ⟨rfl, rfl⟩ | ⟨rfl, rfl⟩ | ⟨rfl, rfl⟩ | ⟨rfl, rfl⟩ | ⟨rfl, rfl⟩ | ⟨rfl, rfl⟩ | ⟨rfl, rfl⟩ | ⟨rfl, rfl⟩ | ⟨rfl, rfl⟩ | ⟨rfl, rfl⟩ | ⟨rfl, rfl⟩ | ⟨rfl, rfl⟩ | ⟨rfl, rfl⟩ | ⟨rfl, rfl⟩ | ⟨rfl, rfl⟩ | ⟨rfl, rfl⟩ | ⟨rfl, rfl⟩ | ⟨rfl, rfl⟩ | ⟨rfl, rfl⟩ | ⟨rfl, rfl⟩ | ⟨rfl, rfl⟩ | ⟨rfl, rfl⟩ | ⟨rfl, rfl⟩ | ⟨rfl, rfl⟩ | ⟨rfl, rfl⟩ | ⟨rfl, rfl⟩ | ⟨rfl, rfl⟩ | ⟨rfl, rfl⟩ | ⟨rfl, rfl⟩ | ⟨rfl, rfl⟩ | ⟨rfl, rfl⟩
  · exact compF_fit Try.func3 comp3 (by rw [lps3]; intro x hx; simp only [List.mem_cons, List.not_mem_nil, or_false] at hx; rcases hx with rfl <;> exact ⟨_, rfl, rfl⟩)
  · exact compF_fit Try.func4 comp4 (by rw [lps4]; intro x hx; simp only [List.mem_cons, List.not_mem_nil, or_false] at hx; rcases hx with rfl <;> exact ⟨_, rfl, rfl⟩)
  · exact compF_fit Try.func5 comp5 (by rw [lps5]; intro x hx; cases hx)
  · exact compF_fit Try.func6 comp6 (by rw [lps6]; intro x hx; simp only [List.mem_cons, List.not_mem_nil, or_false] at hx; rcases hx with rfl <;> exact ⟨_, rfl, rfl⟩)
  · exact compF_fit Try.func7 comp7 (by rw [lps7]; intro x hx; simp only [List.mem_cons, List.not_mem_nil, or_false] at hx; rcases hx with rfl <;> exact ⟨_, rfl, rfl⟩)
  · exact compF_fit Try.func8 comp8 (by rw [lps8]; intro x hx; cases hx)
  · exact compF_fit Try.func9 comp9 (by rw [lps9]; intro x hx; simp only [List.mem_cons, List.not_mem_nil, or_false] at hx; rcases hx with rfl <;> exact ⟨_, rfl, rfl⟩)
  · exact compF_fit Try.func10 comp10 (by rw [lps10]; intro x hx; cases hx)
  · exact compF_fit Try.func11 comp11 (by rw [lps11]; intro x hx; cases hx)
  · exact compF_fit Try.func12 comp12 (by rw [lps12]; intro x hx; cases hx)
  · exact compF_fit Try.func13 comp13 (by rw [lps13]; intro x hx; cases hx)
  · exact compF_fit Try.func14 comp14 (by rw [lps14]; intro x hx; cases hx)
  · exact compF_fit Try.func15 comp15 (by rw [lps15]; intro x hx; cases hx)
  · exact compF_fit Try.func16 comp16 (by rw [lps16]; intro x hx; cases hx)
  · exact compF_fit Try.func17 comp17 (by rw [lps17]; intro x hx; simp only [List.mem_cons, List.not_mem_nil, or_false] at hx; rcases hx with rfl <;> exact ⟨_, rfl, rfl⟩)
  · exact compF_fit Try.func18 comp18 (by rw [lps18]; intro x hx; cases hx)
  · exact compF_fit Try.func19 comp19 (by rw [lps19]; intro x hx; simp only [List.mem_cons, List.not_mem_nil, or_false] at hx; rcases hx with rfl <;> exact ⟨_, rfl, rfl⟩)
  · exact compF_fit Try.func20 comp20 (by rw [lps20]; intro x hx; cases hx)
  · exact compF_fit Try.func21 comp21 (by rw [lps21]; intro x hx; cases hx)
  · exact compF_fit Try.func22 comp22 (by rw [lps22]; intro x hx; cases hx)
  · exact compF_fit Try.func23 comp23 (by rw [lps23]; intro x hx; cases hx)
  · exact compF_fit Try.func24 comp24 (by rw [lps24]; intro x hx; cases hx)
  · exact compF_fit Try.func25 comp25 (by rw [lps25]; intro x hx; simp only [List.mem_cons, List.not_mem_nil, or_false] at hx; rcases hx with rfl <;> exact ⟨_, rfl, rfl⟩)
  · exact compF_fit Try.func26 comp26 (by rw [lps26]; intro x hx; cases hx)
  · exact compF_fit Try.func27 comp27 (by rw [lps27]; intro x hx; cases hx)
  · exact compF_fit Try.func28 comp28 (by rw [lps28]; intro x hx; cases hx)
  · exact compF_fit Try.func29 comp29 (by rw [lps29]; intro x hx; cases hx)
  · exact compF_fit Try.func30 comp30 (by rw [lps30]; intro x hx; cases hx)
  · exact compF_fit Try.func31 comp31 (by rw [lps31]; intro x hx; simp only [List.mem_cons, List.not_mem_nil, or_false] at hx; rcases hx with rfl <;> exact ⟨_, rfl, rfl⟩)
  · exact compF_fit Try.func32 comp32 (by rw [lps32]; intro x hx; cases hx)
  · exact compF_fit Try.func33 comp33 (by rw [lps33]; intro x hx; cases hx)
  · exact compF_fit Try.func34 comp34 (by rw [lps34]; intro x hx; simp only [List.mem_cons, List.not_mem_nil, or_false] at hx; rcases hx with rfl <;> exact ⟨_, rfl, rfl⟩)
  · exact compF_fit Try.func36 comp36 (by rw [lps36]; intro x hx; simp only [List.mem_cons, List.not_mem_nil, or_false] at hx; rcases hx with rfl <;> exact ⟨_, rfl, rfl⟩)
  · exact compF_fit Try.func37 comp37 (by rw [lps37]; intro x hx; cases hx)
  · exact compF_fit Try.func38 comp38 (by rw [lps38]; intro x hx; cases hx)
  · exact compF_fit Try.func39 comp39 (by rw [lps39]; intro x hx; cases hx)
  · exact compF_fit Try.func40 comp40 (by rw [lps40]; intro x hx; cases hx)
  · exact compF_fit Try.func41 comp41 (by rw [lps41]; intro x hx; cases hx)
  · exact compF_fit Try.func45 comp45 (by rw [lps45]; intro x hx; cases hx)
  · exact compF_fit Try.func46 comp46 (by rw [lps46]; intro x hx; cases hx)
end Go.Proofs.Ytjojfpmelhaknaa.D
