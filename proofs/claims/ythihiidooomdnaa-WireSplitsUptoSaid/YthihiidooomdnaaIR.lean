/-
  The code that the statements reach, read: printed by Dtool, checked by the kernel.
-/
import Derived.Test.YthihiidooomdnaaD21
import Derived.Test.YthihiidooomdnaaProg
namespace Go.Proofs.Ythihiidooomdnaa.D
open Go.RowKit
set_option maxRecDepth 100000
/-- noonmark/noonmarklaw01.WireSplits -/
def an3 : An := (.s .z (.s .z (.s .z (.s .z .z))))
def ir3 : IFun := ⟨29, [.tmp 2],
  .seq (.region [⟨(some 2), .plain (.move (.const (.bool false))), []⟩])
  (.seq (.region [⟨(some 8), .plain (.move (.tmp 0)), []⟩,
      ⟨(some 9), .call 6 [(.tmp 8)], []⟩,
      ⟨(some 7), .plain (.move (.tmp 9)), []⟩,
      ⟨(some 10), .plain (.extract 0 (.tmp 7)), []⟩,
      ⟨(some 11), .plain (.extract 1 (.tmp 7)), []⟩,
      ⟨(some 3), .plain (.move (.tmp 10)), []⟩,
      ⟨(some 4), .plain (.move (.tmp 11)), []⟩])
  (.seq (.region [⟨(some 13), .plain (.move (.tmp 0)), []⟩,
      ⟨(some 14), .call 7 [(.tmp 13)], []⟩,
      ⟨(some 12), .plain (.move (.tmp 14)), []⟩,
      ⟨(some 15), .plain (.extract 0 (.tmp 12)), []⟩,
      ⟨(some 16), .plain (.extract 1 (.tmp 12)), []⟩,
      ⟨(some 5), .plain (.move (.tmp 15)), []⟩,
      ⟨(some 6), .plain (.move (.tmp 16)), []⟩])
  (.seq (.region [⟨(some 17), .plain (.move (.tmp 3)), []⟩,
      ⟨(some 18), .call 9 [(.tmp 17)], []⟩,
      ⟨(some 19), .plain (.move (.tmp 5)), []⟩,
      ⟨(some 20), .call 8 [(.tmp 18), (.tmp 19)], []⟩,
      ⟨(some 21), .plain (.move (.tmp 20)), []⟩,
      ⟨(some 22), .plain (.move (.tmp 4)), [(21, true)]⟩,
      ⟨(some 23), .plain (.move (.tmp 6)), [(21, true)]⟩,
      ⟨(some 24), .call 10 [(.tmp 22), (.tmp 23)], [(21, true)]⟩,
      ⟨(some 25), .plain (.pick (.tmp 21) (.tmp 24) (.const (.bool false))), []⟩,
      ⟨(some 26), .plain (.move (.tmp 25)), []⟩,
      ⟨(some 27), .call 11 [], [(26, true)]⟩,
      ⟨(some 28), .plain (.pick (.tmp 26) (.tmp 27) (.const (.bool false))), []⟩,
      ⟨(some 2), .plain (.move (.tmp 28)), []⟩])
  (.ret))))⟩
theorem comp3 : compF Try.prog an3 Try.f3 = some ir3 := by kernel_rfl
theorem lps3 : loopsF Try.prog an3 Try.f3 = [] := by kernel_rfl
/-- noonmark/noonmarklaw01.WireFeeds -/
def an4 : An := (.s .z (.s .z (.s (.s .z (.s (.s .z .z) .z)) (.s .z (.s .z (.s (.s .z (.b (.l 400 [0, 1, 5, 6, 7, 8] (.s (.s .z (.s .z .z)) (.s (.b (.s .z (.k [0, 1, 5, 6, 7, 8, 9] (.s .z (.s .z .z)) (.s .z .z)))) .z))))) (.s .z (.s .z (.s .z .z)))))))))
def lb400 : IC :=
  .seq (.seq (.region [⟨(some 22), .plain (.move (.tmp 8)), []⟩,
        ⟨(some 23), .plain (.move (.tmp 1)), []⟩,
        ⟨(some 24), .plain (.len false (.tmp 23)), []⟩,
        ⟨(some 25), .plain (.bin .lss (.tmp 22) (.tmp 24)), []⟩])
    (.cond (.tmp 25) (.skip)
    (.exit 0)))
  (.seq (.block 1 (.seq (.region [⟨(some 28), .plain (.move (.tmp 1)), []⟩,
          ⟨(some 29), .plain (.move (.tmp 8)), []⟩,
          ⟨(some 30), .plain (.idx 1 (.tmp 28) (.tmp 29)), []⟩,
          ⟨(some 31), .plain (.load 1 false (.tmp 30)), []⟩,
          ⟨(some 9), .plain (.move (.tmp 31)), []⟩])
      (.cut [0, 1, 5, 6, 7, 8, 9] (.seq (.region [⟨(some 32), .plain (.move (.tmp 9)), []⟩,
            ⟨(some 33), .plain (.bin .lss (.tmp 32) (.const (.int .i64 (0)))), []⟩,
            ⟨(some 34), .plain (.move (.tmp 33)), []⟩,
            ⟨(some 35), .plain (.move (.tmp 9)), [(34, false)]⟩,
            ⟨(some 36), .plain (.move (.tmp 7)), [(34, false)]⟩,
            ⟨(some 37), .plain (.len false (.tmp 36)), [(34, false)]⟩,
            ⟨(some 38), .plain (.bin .gtr (.tmp 35) (.tmp 37)), [(34, false)]⟩,
            ⟨(some 39), .plain (.pick (.tmp 34) (.const (.bool true)) (.tmp 38)), []⟩])
        (.cond (.tmp 39) (.region [⟨(some 9), .plain (.move (.const (.int .i64 (0)))), []⟩])
        (.skip)))
      (.seq (.region [⟨(some 40), .plain (.move (.tmp 6)), []⟩,
          ⟨(some 41), .plain (.move (.tmp 5)), []⟩,
          ⟨(some 42), .plain (.move (.tmp 7)), []⟩,
          ⟨(some 43), .plain (.move (.tmp 9)), []⟩,
          ⟨(some 44), .plain (.cut 1 (.tmp 42) none (some (.tmp 43))), []⟩,
          ⟨(some 45), .call 13 [(.tmp 41), (.tmp 44)], []⟩,
          ⟨(some 46), .call 9 [(.tmp 45)], []⟩,
          ⟨(some 47), .plain (.app false 2 32 (.tmp 40) (.tmp 46)), []⟩,
          ⟨(some 6), .plain (.move (.tmp 47)), []⟩])
      (.region [⟨(some 48), .plain (.move (.tmp 7)), []⟩,
        ⟨(some 49), .plain (.move (.tmp 9)), []⟩,
        ⟨(some 50), .plain (.cut 1 (.tmp 48) (some (.tmp 49)) none), []⟩,
        ⟨(some 7), .plain (.move (.tmp 50)), []⟩])))))
  (.region [⟨(some 26), .plain (.move (.tmp 8)), []⟩,
    ⟨(some 27), .plain (.bin .add (.tmp 26) (.const (.int .i64 (1)))), []⟩,
    ⟨(some 8), .plain (.move (.tmp 27)), []⟩]))
def ir4 : IFun := ⟨75, [.tmp 4],
  .seq (.region [⟨(some 4), .plain (.move (.const (.bool false))), []⟩])
  (.seq (.region [⟨(some 12), .call 12 [], []⟩,
      ⟨(some 5), .plain (.move (.tmp 12)), []⟩])
  (.seq (.seq (.region [⟨(some 13), .plain (.move (.tmp 5)), []⟩,
        ⟨(some 14), .plain (.isNil .ptr false (.tmp 13)), []⟩,
        ⟨(some 15), .plain (.move (.tmp 14)), []⟩,
        ⟨(some 16), .plain (.move (.tmp 1)), [(15, false)]⟩,
        ⟨(some 17), .plain (.len false (.tmp 16)), [(15, false)]⟩,
        ⟨(some 18), .plain (.bin .gtr (.tmp 17) (.const (.int .i64 (100)))), [(15, false)]⟩,
        ⟨(some 19), .plain (.pick (.tmp 15) (.const (.bool true)) (.tmp 18)), []⟩])
    (.cond (.tmp 19) (.seq (.region [⟨(some 20), .call 11 [], []⟩,
          ⟨(some 4), .plain (.move (.tmp 20)), []⟩])
      (.ret))
    (.skip)))
  (.seq (.region [⟨(some 6), .plain (.move (.const (.slice none 0 0))), []⟩])
  (.seq (.region [⟨(some 21), .plain (.move (.tmp 0)), []⟩,
      ⟨(some 7), .plain (.move (.tmp 21)), []⟩])
  (.seq (.seq (.region [⟨(some 8), .plain (.move (.const (.int .i64 (0)))), []⟩])
    (.block 0 (.loop 400 [0, 1, 5, 6, 7, 8])))
  (.seq (.region [⟨(some 51), .plain (.move (.tmp 6)), []⟩,
      ⟨(some 52), .plain (.move (.tmp 5)), []⟩,
      ⟨(some 53), .plain (.move (.tmp 7)), []⟩,
      ⟨(some 54), .call 13 [(.tmp 52), (.tmp 53)], []⟩,
      ⟨(some 55), .call 9 [(.tmp 54)], []⟩,
      ⟨(some 56), .plain (.app false 2 32 (.tmp 51) (.tmp 55)), []⟩,
      ⟨(some 6), .plain (.move (.tmp 56)), []⟩])
  (.seq (.region [⟨(some 58), .plain (.move (.tmp 0)), []⟩,
      ⟨(some 59), .call 6 [(.tmp 58)], []⟩,
      ⟨(some 57), .plain (.move (.tmp 59)), []⟩,
      ⟨(some 60), .plain (.extract 0 (.tmp 57)), []⟩,
      ⟨(some 61), .plain (.extract 1 (.tmp 57)), []⟩,
      ⟨(some 10), .plain (.move (.tmp 60)), []⟩,
      ⟨(some 11), .plain (.move (.tmp 61)), []⟩])
  (.seq (.region [⟨(some 62), .plain (.move (.tmp 6)), []⟩,
      ⟨(some 63), .plain (.move (.tmp 10)), []⟩,
      ⟨(some 64), .call 9 [(.tmp 63)], []⟩,
      ⟨(some 65), .call 8 [(.tmp 62), (.tmp 64)], []⟩,
      ⟨(some 66), .plain (.move (.tmp 65)), []⟩,
      ⟨(some 67), .plain (.move (.tmp 5)), [(66, true)]⟩,
      ⟨(some 68), .call 14 [(.tmp 67)], [(66, true)]⟩,
      ⟨(some 69), .plain (.move (.tmp 11)), [(66, true)]⟩,
      ⟨(some 70), .call 10 [(.tmp 68), (.tmp 69)], [(66, true)]⟩,
      ⟨(some 71), .plain (.pick (.tmp 66) (.tmp 70) (.const (.bool false))), []⟩,
      ⟨(some 72), .plain (.move (.tmp 71)), []⟩,
      ⟨(some 73), .call 11 [], [(72, true)]⟩,
      ⟨(some 74), .plain (.pick (.tmp 72) (.tmp 73) (.const (.bool false))), []⟩,
      ⟨(some 4), .plain (.move (.tmp 74)), []⟩])
  (.ret)))))))))⟩
theorem comp4 : compF Try.prog an4 Try.f4 = some ir4 := by kernel_rfl
theorem lps4 : loopsF Try.prog an4 Try.f4 = [(400, [0, 1, 5, 6, 7, 8], some lb400)] := by kernel_rfl
/-- noonmark/noonmarklaw01.WireLeft -/
def an5 : An := (.s .z (.s .z (.s (.s .z (.s (.s .z .z) .z)) (.s .z (.s .z (.s .z .z))))))
def ir5 : IFun := ⟨59, [.tmp 2],
  .seq (.region [⟨(some 2), .plain (.move (.const (.bool false))), []⟩])
  (.seq (.region [⟨(some 9), .plain (.move (.tmp 0)), []⟩,
      ⟨(some 10), .call 6 [(.tmp 9)], []⟩,
      ⟨(some 8), .plain (.move (.tmp 10)), []⟩,
      ⟨(some 11), .plain (.extract 0 (.tmp 8)), []⟩,
      ⟨(some 12), .plain (.extract 1 (.tmp 8)), []⟩,
      ⟨(some 3), .plain (.move (.tmp 11)), []⟩,
      ⟨(some 4), .plain (.move (.tmp 12)), []⟩])
  (.seq (.seq (.region [⟨(some 13), .plain (.move (.tmp 4)), []⟩,
        ⟨(some 14), .plain (.len false (.tmp 13)), []⟩,
        ⟨(some 15), .plain (.move (.tmp 0)), []⟩,
        ⟨(some 16), .plain (.len false (.tmp 15)), []⟩,
        ⟨(some 17), .plain (.bin .gtr (.tmp 14) (.tmp 16)), []⟩,
        ⟨(some 18), .plain (.move (.tmp 17)), []⟩,
        ⟨(some 19), .plain (.move (.tmp 4)), [(18, false)]⟩,
        ⟨(some 20), .plain (.move (.tmp 0)), [(18, false)]⟩,
        ⟨(some 21), .plain (.move (.tmp 0)), [(18, false)]⟩,
        ⟨(some 22), .plain (.len false (.tmp 21)), [(18, false)]⟩,
        ⟨(some 23), .plain (.move (.tmp 4)), [(18, false)]⟩,
        ⟨(some 24), .plain (.len false (.tmp 23)), [(18, false)]⟩,
        ⟨(some 25), .plain (.bin .sub (.tmp 22) (.tmp 24)), [(18, false)]⟩,
        ⟨(some 26), .plain (.cut 1 (.tmp 20) (some (.tmp 25)) none), [(18, false)]⟩,
        ⟨(some 27), .call 10 [(.tmp 19), (.tmp 26)], [(18, false)]⟩,
        ⟨(some 28), .plain (.un .not (.tmp 27)), [(18, false)]⟩,
        ⟨(some 29), .plain (.pick (.tmp 18) (.const (.bool true)) (.tmp 28)), []⟩])
    (.cond (.tmp 29) (.seq (.region [⟨(some 2), .plain (.move (.const (.bool false))), []⟩])
      (.ret))
    (.skip)))
  (.seq (.region [⟨(some 31), .plain (.move (.tmp 4)), []⟩,
      ⟨(some 32), .call 6 [(.tmp 31)], []⟩,
      ⟨(some 30), .plain (.move (.tmp 32)), []⟩,
      ⟨(some 33), .plain (.extract 0 (.tmp 30)), []⟩,
      ⟨(some 34), .plain (.extract 1 (.tmp 30)), []⟩,
      ⟨(some 5), .plain (.move (.tmp 33)), []⟩,
      ⟨(some 6), .plain (.move (.tmp 34)), []⟩])
  (.seq (.region [⟨(some 7), .plain (.move (.const (.pointer none))), []⟩])
  (.seq (.region [⟨(some 35), .plain (.move (.tmp 5)), []⟩,
      ⟨(some 36), .plain (.len false (.tmp 35)), []⟩,
      ⟨(some 37), .plain (.bin .eql (.tmp 36) (.const (.int .i64 (0)))), []⟩,
      ⟨(some 38), .plain (.move (.tmp 37)), []⟩,
      ⟨(some 39), .plain (.move (.tmp 6)), [(38, true)]⟩,
      ⟨(some 40), .plain (.move (.tmp 4)), [(38, true)]⟩,
      ⟨(some 41), .call 10 [(.tmp 39), (.tmp 40)], [(38, true)]⟩,
      ⟨(some 42), .plain (.pick (.tmp 38) (.tmp 41) (.const (.bool false))), []⟩,
      ⟨(some 43), .plain (.move (.tmp 42)), []⟩,
      ⟨(some 44), .plain (.move (.tmp 7)), [(43, true)]⟩,
      ⟨(some 45), .plain (.move (.tmp 0)), [(43, true)]⟩,
      ⟨(some 46), .call 13 [(.tmp 44), (.tmp 45)], [(43, true)]⟩,
      ⟨(some 47), .plain (.len false (.tmp 46)), [(43, true)]⟩,
      ⟨(some 48), .plain (.bin .eql (.tmp 47) (.const (.int .i64 (0)))), [(43, true)]⟩,
      ⟨(some 49), .plain (.pick (.tmp 43) (.tmp 48) (.const (.bool false))), []⟩,
      ⟨(some 50), .plain (.move (.tmp 49)), []⟩,
      ⟨(some 51), .plain (.move (.tmp 7)), [(50, true)]⟩,
      ⟨(some 52), .call 14 [(.tmp 51)], [(50, true)]⟩,
      ⟨(some 53), .plain (.len false (.tmp 52)), [(50, true)]⟩,
      ⟨(some 54), .plain (.bin .eql (.tmp 53) (.const (.int .i64 (0)))), [(50, true)]⟩,
      ⟨(some 55), .plain (.pick (.tmp 50) (.tmp 54) (.const (.bool false))), []⟩,
      ⟨(some 56), .plain (.move (.tmp 55)), []⟩,
      ⟨(some 57), .call 11 [], [(56, true)]⟩,
      ⟨(some 58), .plain (.pick (.tmp 56) (.tmp 57) (.const (.bool false))), []⟩,
      ⟨(some 2), .plain (.move (.tmp 58)), []⟩])
  (.ret))))))⟩
theorem comp5 : compF Try.prog an5 Try.f5 = some ir5 := by kernel_rfl
theorem lps5 : loopsF Try.prog an5 Try.f5 = [] := by kernel_rfl
/-- noonmark/wire.Split -/
def an6 : An := (.s .z (.s .z (.s .z (.s .z .z))))
def ir6 : IFun := ⟨12, [.tmp 2, .tmp 3],
  .seq (.region [⟨(some 2), .plain (.move (.const (.slice none 0 0))), []⟩,
      ⟨(some 3), .plain (.move (.const (.slice none 0 0))), []⟩])
  (.seq (.region [⟨(some 5), .call 12 [], []⟩,
      ⟨(some 4), .plain (.move (.tmp 5)), []⟩])
  (.seq (.region [⟨(some 6), .plain (.move (.tmp 4)), []⟩,
      ⟨(some 7), .plain (.move (.tmp 0)), []⟩,
      ⟨(some 8), .call 13 [(.tmp 6), (.tmp 7)], []⟩,
      ⟨(some 2), .plain (.move (.tmp 8)), []⟩])
  (.seq (.region [⟨(some 9), .plain (.move (.tmp 2)), []⟩,
      ⟨(some 10), .plain (.move (.tmp 4)), []⟩,
      ⟨(some 11), .call 14 [(.tmp 10)], []⟩,
      ⟨(some 2), .plain (.move (.tmp 9)), []⟩,
      ⟨(some 3), .plain (.move (.tmp 11)), []⟩])
  (.ret))))⟩
theorem comp6 : compF Try.prog an6 Try.f6 = some ir6 := by kernel_rfl
theorem lps6 : loopsF Try.prog an6 Try.f6 = [] := by kernel_rfl
/-- noonmark/noonmarkref01.Split -/
def an7 : An := (.s .z (.s .z (.s (.b (.l 700 [0, 2, 3, 4] (.s (.s .z (.s .z .z)) (.b (.s .z (.s (.s .z (.s (.s .z .z) .z)) (.s (.s .z (.s (.s .z (.s .z .z)) .z)) (.s .z (.s (.b (.l 701 [0, 2, 3, 4, 6] (.s (.s .z (.s .z .z)) (.b .z)))) (.s (.s .z (.s (.s .z .z) .z)) .z)))))))))) (.s .z .z))))
def lb700 : IC :=
  .seq (.seq (.region [⟨(some 8), .plain (.move (.tmp 0)), []⟩,
        ⟨(some 9), .plain (.len false (.tmp 8)), []⟩,
        ⟨(some 10), .plain (.bin .gtr (.tmp 9) (.const (.int .i64 (0)))), []⟩])
    (.cond (.tmp 10) (.skip)
    (.exit 0)))
  (.block 1 (.seq (.region [⟨(some 12), .plain (.move (.tmp 0)), []⟩,
        ⟨(some 13), .call 15 [(.tmp 12)], []⟩,
        ⟨(some 11), .plain (.move (.tmp 13)), []⟩,
        ⟨(some 14), .plain (.extract 0 (.tmp 11)), []⟩,
        ⟨(some 15), .plain (.extract 1 (.tmp 11)), []⟩,
        ⟨(some 16), .plain (.extract 2 (.tmp 11)), []⟩,
        ⟨(some 5), .plain (.move (.tmp 14)), []⟩,
        ⟨(some 6), .plain (.move (.tmp 15)), []⟩,
        ⟨(some 7), .plain (.move (.tmp 16)), []⟩])
    (.seq (.seq (.region [⟨(some 17), .plain (.move (.tmp 5)), []⟩,
          ⟨(some 18), .plain (.bin .eql (.tmp 17) (.const (.int .i64 (0)))), []⟩])
      (.cond (.tmp 18) (.seq (.region [⟨(some 19), .plain (.move (.tmp 4)), []⟩,
            ⟨(some 20), .plain (.move (.tmp 0)), []⟩,
            ⟨(some 2), .plain (.move (.tmp 19)), []⟩,
            ⟨(some 3), .plain (.move (.tmp 20)), []⟩])
        (.ret))
      (.skip)))
    (.seq (.seq (.region [⟨(some 21), .plain (.move (.tmp 5)), []⟩,
          ⟨(some 22), .plain (.bin .eql (.tmp 21) (.const (.int .i64 (1)))), []⟩])
      (.cond (.tmp 22) (.seq (.region [⟨(some 23), .plain (.move (.tmp 4)), []⟩,
            ⟨(some 24), .plain (.move (.tmp 7)), []⟩,
            ⟨(some 25), .plain (.build [(0, 1), (1, 1)] [(.bool false), (.slice none 0 0)] [(1, (.tmp 24))]), []⟩,
            ⟨(some 26), .plain (.lit 2 1 [(.bool false), (.slice none 0 0)] [(0, (.tmp 25))]), []⟩,
            ⟨(some 27), .plain (.app false 2 32 (.tmp 23) (.tmp 26)), []⟩,
            ⟨(some 4), .plain (.move (.tmp 27)), []⟩])
        (.seq (.region [⟨(some 28), .plain (.move (.tmp 0)), []⟩,
            ⟨(some 29), .plain (.move (.tmp 6)), []⟩,
            ⟨(some 30), .plain (.cut 1 (.tmp 28) (some (.tmp 29)) none), []⟩,
            ⟨(some 0), .plain (.move (.tmp 30)), []⟩])
        (.exit 1)))
      (.skip)))
    (.seq (.region [⟨(some 31), .plain (.move (.tmp 4)), []⟩,
        ⟨(some 32), .plain (.build [(0, 1), (1, 1)] [(.bool false), (.slice none 0 0)] [(0, (.const (.bool true)))]), []⟩,
        ⟨(some 33), .plain (.lit 2 1 [(.bool false), (.slice none 0 0)] [(0, (.tmp 32))]), []⟩,
        ⟨(some 34), .plain (.app false 2 32 (.tmp 31) (.tmp 33)), []⟩,
        ⟨(some 4), .plain (.move (.tmp 34)), []⟩])
    (.seq (.block 2 (.loop 701 [0, 2, 3, 4, 6]))
    (.seq (.seq (.region [⟨(some 48), .plain (.move (.tmp 6)), []⟩,
          ⟨(some 49), .plain (.move (.tmp 0)), []⟩,
          ⟨(some 50), .plain (.len false (.tmp 49)), []⟩,
          ⟨(some 51), .plain (.bin .eql (.tmp 48) (.tmp 50)), []⟩])
      (.cond (.tmp 51) (.seq (.region [⟨(some 52), .plain (.move (.tmp 4)), []⟩,
            ⟨(some 2), .plain (.move (.tmp 52)), []⟩,
            ⟨(some 3), .plain (.move (.const (.slice none 0 0))), []⟩])
        (.ret))
      (.skip)))
    (.region [⟨(some 53), .plain (.move (.tmp 0)), []⟩,
      ⟨(some 54), .plain (.move (.tmp 6)), []⟩,
      ⟨(some 55), .plain (.bin .add (.tmp 54) (.const (.int .i64 (1)))), []⟩,
      ⟨(some 56), .plain (.cut 1 (.tmp 53) (some (.tmp 55)) none), []⟩,
      ⟨(some 0), .plain (.move (.tmp 56)), []⟩]))))))))
def lb701 : IC :=
  .seq (.seq (.region [⟨(some 35), .plain (.move (.tmp 6)), []⟩,
        ⟨(some 36), .plain (.move (.tmp 0)), []⟩,
        ⟨(some 37), .plain (.len false (.tmp 36)), []⟩,
        ⟨(some 38), .plain (.bin .lss (.tmp 35) (.tmp 37)), []⟩,
        ⟨(some 39), .plain (.move (.tmp 38)), []⟩,
        ⟨(some 40), .plain (.move (.tmp 0)), [(39, true)]⟩,
        ⟨(some 41), .plain (.move (.tmp 6)), [(39, true)]⟩,
        ⟨(some 42), .plain (.idx 1 (.tmp 40) (.tmp 41)), [(39, true)]⟩,
        ⟨(some 43), .plain (.load 1 false (.tmp 42)), [(39, true)]⟩,
        ⟨(some 44), .plain (.bin .neq (.tmp 43) (.const (.int .u8 (10)))), [(39, true)]⟩,
        ⟨(some 45), .plain (.pick (.tmp 39) (.tmp 44) (.const (.bool false))), []⟩])
    (.cond (.tmp 45) (.skip)
    (.exit 2)))
  (.block 3 (.region [⟨(some 46), .plain (.move (.tmp 6)), []⟩,
      ⟨(some 47), .plain (.bin .add (.tmp 46) (.const (.int .i64 (1)))), []⟩,
      ⟨(some 6), .plain (.move (.tmp 47)), []⟩]))
def ir7 : IFun := ⟨58, [.tmp 2, .tmp 3],
  .seq (.region [⟨(some 2), .plain (.move (.const (.slice none 0 0))), []⟩,
      ⟨(some 3), .plain (.move (.const (.slice none 0 0))), []⟩])
  (.seq (.region [⟨(some 4), .plain (.move (.const (.slice none 0 0))), []⟩])
  (.seq (.block 0 (.loop 700 [0, 2, 3, 4]))
  (.seq (.region [⟨(some 57), .plain (.move (.tmp 4)), []⟩,
      ⟨(some 2), .plain (.move (.tmp 57)), []⟩,
      ⟨(some 3), .plain (.move (.const (.slice none 0 0))), []⟩])
  (.ret))))⟩
theorem comp7 : compF Try.prog an7 Try.f7 = some ir7 := by kernel_rfl
theorem lps7 : loopsF Try.prog an7 Try.f7 = [(700, [0, 2, 3, 4], some lb700), (701, [0, 2, 3, 4, 6], some lb701)] := by kernel_rfl
/-- noonmark/noonmarkref01.Items -/
def an8 : An := (.s .z (.s (.s .z (.s (.s .z .z) .z)) (.s (.s .z (.b (.l 800 [0, 1, 4, 5] (.s (.s .z (.s .z .z)) (.s (.b (.s .z (.s (.s .z .z) .z))) .z))))) (.s .z .z))))
def lb800 : IC :=
  .seq (.seq (.region [⟨(some 11), .plain (.move (.tmp 5)), []⟩,
        ⟨(some 12), .plain (.move (.tmp 0)), []⟩,
        ⟨(some 13), .plain (.len false (.tmp 12)), []⟩,
        ⟨(some 14), .plain (.bin .lss (.tmp 11) (.tmp 13)), []⟩])
    (.cond (.tmp 14) (.skip)
    (.exit 0)))
  (.seq (.block 1 (.seq (.draws [(⟨(some 17), .plain (.move (.tmp 0)), []⟩, [0], .pure),
          (⟨(some 18), .plain (.move (.tmp 5)), []⟩, [5], .pure),
          (⟨(some 19), .plain (.idx 2 (.tmp 17) (.tmp 18)), []⟩, [17, 18], .pure),
          (⟨(some 20), .plain (.fieldAddr 0 (.tmp 19)), []⟩, [19], .pure),
          (⟨(some 21), .plain (.load 1 false (.tmp 20)), []⟩, [20], .quiet),
          (⟨(some 22), .plain (.move (.tmp 1)), []⟩, [1], .pure),
          (⟨(some 23), .plain (.move (.tmp 5)), []⟩, [5], .pure),
          (⟨(some 24), .plain (.idx 2 (.tmp 22) (.tmp 23)), []⟩, [22, 23], .pure),
          (⟨(some 25), .plain (.fieldAddr 0 (.tmp 24)), []⟩, [24], .pure),
          (⟨(some 26), .plain (.load 1 false (.tmp 25)), []⟩, [25], .quiet),
          (⟨(some 27), .plain (.eqB true (.tmp 21) (.tmp 26)), []⟩, [21, 26], .pure),
          (⟨(some 28), .plain (.move (.tmp 27)), []⟩, [27], .pure),
          (⟨(some 29), .plain (.move (.tmp 0)), [(28, false)]⟩, [0, 28], .pure),
          (⟨(some 30), .plain (.move (.tmp 5)), [(28, false)]⟩, [5, 28], .pure),
          (⟨(some 31), .plain (.idx 2 (.tmp 29) (.tmp 30)), [(28, false)]⟩, [29, 30, 28], .pure),
          (⟨(some 32), .plain (.fieldAddr 1 (.tmp 31)), [(28, false)]⟩, [31, 28], .pure),
          (⟨(some 33), .plain (.load 1 false (.tmp 32)), [(28, false)]⟩, [32, 28], .quiet),
          (⟨(some 34), .plain (.move (.tmp 1)), [(28, false)]⟩, [1, 28], .pure),
          (⟨(some 35), .plain (.move (.tmp 5)), [(28, false)]⟩, [5, 28], .pure),
          (⟨(some 36), .plain (.idx 2 (.tmp 34) (.tmp 35)), [(28, false)]⟩, [34, 35, 28], .pure),
          (⟨(some 37), .plain (.fieldAddr 1 (.tmp 36)), [(28, false)]⟩, [36, 28], .pure),
          (⟨(some 38), .plain (.load 1 false (.tmp 37)), [(28, false)]⟩, [37, 28], .quiet),
          (⟨(some 39), .call 10 [(.tmp 33), (.tmp 38)], [(28, false)]⟩, [33, 38, 28], .lone),
          (⟨(some 40), .plain (.un .not (.tmp 39)), [(28, false)]⟩, [39, 28], .pure),
          (⟨(some 41), .plain (.pick (.tmp 28) (.const (.bool true)) (.tmp 40)), []⟩, [28, 40], .pure)])
      (.cond (.tmp 41) (.seq (.region [⟨(some 4), .plain (.move (.const (.bool false))), []⟩])
        (.ret))
      (.skip))))
  (.region [⟨(some 15), .plain (.move (.tmp 5)), []⟩,
    ⟨(some 16), .plain (.bin .add (.tmp 15) (.const (.int .i64 (1)))), []⟩,
    ⟨(some 5), .plain (.move (.tmp 16)), []⟩]))
def ir8 : IFun := ⟨42, [.tmp 4],
  .seq (.region [⟨(some 4), .plain (.move (.const (.bool false))), []⟩])
  (.seq (.seq (.region [⟨(some 6), .plain (.move (.tmp 0)), []⟩,
        ⟨(some 7), .plain (.len false (.tmp 6)), []⟩,
        ⟨(some 8), .plain (.move (.tmp 1)), []⟩,
        ⟨(some 9), .plain (.len false (.tmp 8)), []⟩,
        ⟨(some 10), .plain (.bin .neq (.tmp 7) (.tmp 9)), []⟩])
    (.cond (.tmp 10) (.seq (.region [⟨(some 4), .plain (.move (.const (.bool false))), []⟩])
      (.ret))
    (.skip)))
  (.seq (.seq (.region [⟨(some 5), .plain (.move (.const (.int .i64 (0)))), []⟩])
    (.block 0 (.loop 800 [0, 1, 4, 5])))
  (.seq (.region [⟨(some 4), .plain (.move (.const (.bool true))), []⟩])
  (.ret))))⟩
theorem comp8 : compF Try.prog an8 Try.f8 = some ir8 := by kernel_rfl
theorem lps8 : loopsF Try.prog an8 Try.f8 = [(800, [0, 1, 4, 5], some lb800)] := by kernel_rfl
/-- noonmark/noonmarklaw01.Back -/
def an9 : An := (.s .z (.s .z (.s (.s .z (.b (.l 900 [0, 3, 4] (.s (.s .z (.s .z .z)) (.s (.b .z) .z))))) (.s .z .z))))
def lb900 : IC :=
  .seq (.seq (.region [⟨(some 5), .plain (.move (.tmp 4)), []⟩,
        ⟨(some 6), .plain (.move (.tmp 0)), []⟩,
        ⟨(some 7), .plain (.len false (.tmp 6)), []⟩,
        ⟨(some 8), .plain (.bin .lss (.tmp 5) (.tmp 7)), []⟩])
    (.cond (.tmp 8) (.skip)
    (.exit 0)))
  (.seq (.block 1 (.draws [(⟨(some 11), .plain (.move (.tmp 3)), []⟩, [3], .pure),
        (⟨(some 12), .plain (.move (.tmp 0)), []⟩, [0], .pure),
        (⟨(some 13), .plain (.move (.tmp 4)), []⟩, [4], .pure),
        (⟨(some 14), .plain (.idx 2 (.tmp 12) (.tmp 13)), []⟩, [12, 13], .pure),
        (⟨(some 15), .plain (.fieldAddr 0 (.tmp 14)), []⟩, [14], .pure),
        (⟨(some 16), .plain (.load 1 false (.tmp 15)), []⟩, [15], .quiet),
        (⟨(some 17), .plain (.move (.tmp 0)), []⟩, [0], .pure),
        (⟨(some 18), .plain (.move (.tmp 4)), []⟩, [4], .pure),
        (⟨(some 19), .plain (.idx 2 (.tmp 17) (.tmp 18)), []⟩, [17, 18], .pure),
        (⟨(some 20), .plain (.fieldAddr 1 (.tmp 19)), []⟩, [19], .pure),
        (⟨(some 21), .plain (.load 1 false (.tmp 20)), []⟩, [20], .quiet),
        (⟨(some 22), .plain (.build [(0, 1), (1, 1)] [(.bool false), (.slice none 0 0)] [(0, (.tmp 16)), (1, (.tmp 21))]), []⟩, [16, 21], .pure),
        (⟨(some 23), .plain (.lit 2 1 [(.bool false), (.slice none 0 0)] [(0, (.tmp 22))]), []⟩, [22], .quiet),
        (⟨(some 24), .plain (.app false 2 32 (.tmp 11) (.tmp 23)), []⟩, [11, 23], .lone),
        (⟨(some 3), .plain (.move (.tmp 24)), []⟩, [24], .pure)]))
  (.region [⟨(some 9), .plain (.move (.tmp 4)), []⟩,
    ⟨(some 10), .plain (.bin .add (.tmp 9) (.const (.int .i64 (1)))), []⟩,
    ⟨(some 4), .plain (.move (.tmp 10)), []⟩]))
def ir9 : IFun := ⟨26, [.tmp 2],
  .seq (.region [⟨(some 2), .plain (.move (.const (.slice none 0 0))), []⟩])
  (.seq (.region [⟨(some 3), .plain (.move (.const (.slice none 0 0))), []⟩])
  (.seq (.seq (.region [⟨(some 4), .plain (.move (.const (.int .i64 (0)))), []⟩])
    (.block 0 (.loop 900 [0, 3, 4])))
  (.seq (.region [⟨(some 25), .plain (.move (.tmp 3)), []⟩,
      ⟨(some 2), .plain (.move (.tmp 25)), []⟩])
  (.ret))))⟩
theorem comp9 : compF Try.prog an9 Try.f9 = some ir9 := by kernel_rfl
theorem lps9 : loopsF Try.prog an9 Try.f9 = [(900, [0, 3, 4], some lb900)] := by kernel_rfl
/-- noonmark/noonmarkref01.Same -/
def an10 : An := (.s .z (.s (.s .z (.s (.s .z .z) .z)) (.s (.s .z (.b (.l 1000 [0, 1, 4, 5] (.s (.s .z (.s .z .z)) (.s (.b (.s .z (.s (.s .z .z) .z))) .z))))) (.s .z .z))))
def lb1000 : IC :=
  .seq (.seq (.region [⟨(some 11), .plain (.move (.tmp 5)), []⟩,
        ⟨(some 12), .plain (.move (.tmp 0)), []⟩,
        ⟨(some 13), .plain (.len false (.tmp 12)), []⟩,
        ⟨(some 14), .plain (.bin .lss (.tmp 11) (.tmp 13)), []⟩])
    (.cond (.tmp 14) (.skip)
    (.exit 0)))
  (.seq (.block 1 (.seq (.draws [(⟨(some 17), .plain (.move (.tmp 0)), []⟩, [0], .pure),
          (⟨(some 18), .plain (.move (.tmp 5)), []⟩, [5], .pure),
          (⟨(some 19), .plain (.idx 1 (.tmp 17) (.tmp 18)), []⟩, [17, 18], .pure),
          (⟨(some 20), .plain (.load 1 false (.tmp 19)), []⟩, [19], .quiet),
          (⟨(some 21), .plain (.move (.tmp 1)), []⟩, [1], .pure),
          (⟨(some 22), .plain (.move (.tmp 5)), []⟩, [5], .pure),
          (⟨(some 23), .plain (.idx 1 (.tmp 21) (.tmp 22)), []⟩, [21, 22], .pure),
          (⟨(some 24), .plain (.load 1 false (.tmp 23)), []⟩, [23], .quiet),
          (⟨(some 25), .plain (.bin .neq (.tmp 20) (.tmp 24)), []⟩, [20, 24], .pure)])
      (.cond (.tmp 25) (.seq (.region [⟨(some 4), .plain (.move (.const (.bool false))), []⟩])
        (.ret))
      (.skip))))
  (.region [⟨(some 15), .plain (.move (.tmp 5)), []⟩,
    ⟨(some 16), .plain (.bin .add (.tmp 15) (.const (.int .i64 (1)))), []⟩,
    ⟨(some 5), .plain (.move (.tmp 16)), []⟩]))
def ir10 : IFun := ⟨26, [.tmp 4],
  .seq (.region [⟨(some 4), .plain (.move (.const (.bool false))), []⟩])
  (.seq (.seq (.region [⟨(some 6), .plain (.move (.tmp 0)), []⟩,
        ⟨(some 7), .plain (.len false (.tmp 6)), []⟩,
        ⟨(some 8), .plain (.move (.tmp 1)), []⟩,
        ⟨(some 9), .plain (.len false (.tmp 8)), []⟩,
        ⟨(some 10), .plain (.bin .neq (.tmp 7) (.tmp 9)), []⟩])
    (.cond (.tmp 10) (.seq (.region [⟨(some 4), .plain (.move (.const (.bool false))), []⟩])
      (.ret))
    (.skip)))
  (.seq (.seq (.region [⟨(some 5), .plain (.move (.const (.int .i64 (0)))), []⟩])
    (.block 0 (.loop 1000 [0, 1, 4, 5])))
  (.seq (.region [⟨(some 4), .plain (.move (.const (.bool true))), []⟩])
  (.ret))))⟩
theorem comp10 : compF Try.prog an10 Try.f10 = some ir10 := by kernel_rfl
theorem lps10 : loopsF Try.prog an10 Try.f10 = [(1000, [0, 1, 4, 5], some lb1000)] := by kernel_rfl
/-- noonmark/noonmarklaw01.alive -/
def an11 : An := (.s .z (.s .z (.s .z (.s .z .z))))
def ir11 : IFun := ⟨56, [.tmp 0],
  .seq (.region [⟨(some 0), .plain (.move (.const (.bool false))), []⟩])
  (.seq (.region [⟨(some 6), .plain (.lit 1 8 [(.int .u8 (0))] [(0, (.const (.int .u8 (53)))), (1, (.const (.int .u8 (58)))), (2, (.const (.int .u8 (104)))), (3, (.const (.int .u8 (101)))), (4, (.const (.int .u8 (108)))), (5, (.const (.int .u8 (108)))), (6, (.const (.int .u8 (111)))), (7, (.const (.int .u8 (10))))]), []⟩,
      ⟨(some 7), .plain (.mark (.tmp 6)), []⟩,
      ⟨(some 8), .call 6 [(.tmp 7)], []⟩,
      ⟨(some 5), .plain (.move (.tmp 8)), []⟩,
      ⟨(some 9), .plain (.extract 0 (.tmp 5)), []⟩,
      ⟨(some 10), .plain (.extract 1 (.tmp 5)), []⟩,
      ⟨(some 1), .plain (.move (.tmp 9)), []⟩,
      ⟨(some 2), .plain (.move (.tmp 10)), []⟩])
  (.seq (.region [⟨(some 12), .plain (.lit 1 5 [(.int .u8 (0))] [(0, (.const (.int .u8 (120)))), (1, (.const (.int .u8 (10)))), (2, (.const (.int .u8 (48)))), (3, (.const (.int .u8 (58)))), (4, (.const (.int .u8 (10))))]), []⟩,
      ⟨(some 13), .plain (.mark (.tmp 12)), []⟩,
      ⟨(some 14), .call 6 [(.tmp 13)], []⟩,
      ⟨(some 11), .plain (.move (.tmp 14)), []⟩,
      ⟨(some 15), .plain (.extract 0 (.tmp 11)), []⟩,
      ⟨(some 16), .plain (.extract 1 (.tmp 11)), []⟩,
      ⟨(some 3), .plain (.move (.tmp 15)), []⟩,
      ⟨(some 4), .plain (.move (.tmp 16)), []⟩])
  (.seq (.region [⟨(some 17), .plain (.move (.tmp 1)), []⟩,
      ⟨(some 18), .plain (.len false (.tmp 17)), []⟩,
      ⟨(some 19), .plain (.bin .eql (.tmp 18) (.const (.int .i64 (1)))), []⟩,
      ⟨(some 20), .plain (.move (.tmp 19)), []⟩,
      ⟨(some 21), .plain (.move (.tmp 1)), [(20, true)]⟩,
      ⟨(some 22), .plain (.idx 2 (.tmp 21) (.const (.int .i64 (0)))), [(20, true)]⟩,
      ⟨(some 23), .plain (.fieldAddr 1 (.tmp 22)), [(20, true)]⟩,
      ⟨(some 24), .plain (.load 1 false (.tmp 23)), [(20, true)]⟩,
      ⟨(some 25), .plain (.toStr (.tmp 24)), [(20, true)]⟩,
      ⟨(some 26), .plain (.bin .eql (.tmp 25) (.const (.string ⟨#[104, 101, 108, 108, 111]⟩))), [(20, true)]⟩,
      ⟨(some 27), .plain (.pick (.tmp 20) (.tmp 26) (.const (.bool false))), []⟩,
      ⟨(some 28), .plain (.move (.tmp 27)), []⟩,
      ⟨(some 29), .plain (.move (.tmp 2)), [(28, true)]⟩,
      ⟨(some 30), .plain (.len false (.tmp 29)), [(28, true)]⟩,
      ⟨(some 31), .plain (.bin .eql (.tmp 30) (.const (.int .i64 (0)))), [(28, true)]⟩,
      ⟨(some 32), .plain (.pick (.tmp 28) (.tmp 31) (.const (.bool false))), []⟩,
      ⟨(some 33), .plain (.move (.tmp 32)), []⟩,
      ⟨(some 34), .plain (.move (.tmp 3)), [(33, true)]⟩,
      ⟨(some 35), .plain (.len false (.tmp 34)), [(33, true)]⟩,
      ⟨(some 36), .plain (.bin .eql (.tmp 35) (.const (.int .i64 (2)))), [(33, true)]⟩,
      ⟨(some 37), .plain (.pick (.tmp 33) (.tmp 36) (.const (.bool false))), []⟩,
      ⟨(some 38), .plain (.move (.tmp 37)), []⟩,
      ⟨(some 39), .plain (.move (.tmp 3)), [(38, true)]⟩,
      ⟨(some 40), .plain (.idx 2 (.tmp 39) (.const (.int .i64 (0)))), [(38, true)]⟩,
      ⟨(some 41), .plain (.fieldAddr 0 (.tmp 40)), [(38, true)]⟩,
      ⟨(some 42), .plain (.load 1 false (.tmp 41)), [(38, true)]⟩,
      ⟨(some 43), .plain (.pick (.tmp 38) (.tmp 42) (.const (.bool false))), []⟩,
      ⟨(some 44), .plain (.move (.tmp 43)), []⟩,
      ⟨(some 45), .plain (.move (.tmp 3)), [(44, true)]⟩,
      ⟨(some 46), .plain (.idx 2 (.tmp 45) (.const (.int .i64 (1)))), [(44, true)]⟩,
      ⟨(some 47), .plain (.fieldAddr 0 (.tmp 46)), [(44, true)]⟩,
      ⟨(some 48), .plain (.load 1 false (.tmp 47)), [(44, true)]⟩,
      ⟨(some 49), .plain (.un .not (.tmp 48)), [(44, true)]⟩,
      ⟨(some 50), .plain (.pick (.tmp 44) (.tmp 49) (.const (.bool false))), []⟩,
      ⟨(some 51), .plain (.move (.tmp 50)), []⟩,
      ⟨(some 52), .plain (.move (.tmp 4)), [(51, true)]⟩,
      ⟨(some 53), .plain (.len false (.tmp 52)), [(51, true)]⟩,
      ⟨(some 54), .plain (.bin .eql (.tmp 53) (.const (.int .i64 (0)))), [(51, true)]⟩,
      ⟨(some 55), .plain (.pick (.tmp 51) (.tmp 54) (.const (.bool false))), []⟩,
      ⟨(some 0), .plain (.move (.tmp 55)), []⟩])
  (.ret))))⟩
theorem comp11 : compF Try.prog an11 Try.f11 = some ir11 := by kernel_rfl
theorem lps11 : loopsF Try.prog an11 Try.f11 = [] := by kernel_rfl
/-- noonmark/wire.New -/
def an12 : An := (.s .z (.s .z .z))
def ir12 : IFun := ⟨3, [.tmp 0],
  .seq (.region [⟨(some 0), .plain (.move (.const (.pointer none))), []⟩])
  (.seq (.region [⟨(some 1), .plain (.build [(0, 1), (1, 1), (2, 1), (3, 1), (4, 1)] [(.int .i64 (0)), (.slice none 0 0), (.int .i64 (0)), (.int .i64 (0)), (.slice none 0 0)] []), []⟩,
      ⟨(some 2), .plain (.box 0 (.tmp 1)), []⟩,
      ⟨(some 0), .plain (.move (.tmp 2)), []⟩])
  (.ret))⟩
theorem comp12 : compF Try.prog an12 Try.f12 = some ir12 := by kernel_rfl
theorem lps12 : loopsF Try.prog an12 Try.f12 = [] := by kernel_rfl
/-- (*noonmark/wire.Splitter).Feed -/
def an13 : An := (.s .z (.s (.s .z (.s (.s .z .z) .z)) (.s (.s .z (.b (.l 1300 [0, 10, 11, 12] (.s .z (.s (.s .z .z) (.s (.b (.s .z .z)) .z)))))) (.s .z (.s .z (.s .z .z))))))
def lb1300 : IC :=
  .seq (.region [⟨(some 13), .plain (.bin .lss (.tmp 12) (.tmp 11)), []⟩])
  (.seq (.cond (.tmp 13) (.skip)
    (.exit 0))
  (.seq (.block 1 (.seq (.region [⟨(some 14), .plain (.idx 1 (.tmp 10) (.tmp 12)), []⟩,
          ⟨(some 15), .plain (.load 1 false (.tmp 14)), []⟩,
          ⟨(some 6), .plain (.move (.tmp 15)), []⟩])
      (.region [⟨(some 16), .plain (.move (.tmp 0)), []⟩,
        ⟨(some 17), .call 16 [(.tmp 16)], []⟩,
        ⟨(some 18), .plain (.move (.tmp 6)), []⟩,
        ⟨(some 19), .callV (.tmp 17) [(.tmp 18)], []⟩])))
  (.region [⟨(some 20), .plain (.bin .add (.tmp 12) (.const (.int .i64 (1)))), []⟩,
    ⟨(some 12), .plain (.move (.tmp 20)), []⟩])))
def ir13 : IFun := ⟨29, [.tmp 4],
  .seq (.region [⟨(some 4), .plain (.move (.const (.slice none 0 0))), []⟩])
  (.seq (.seq (.region [⟨(some 8), .plain (.move (.tmp 0)), []⟩,
        ⟨(some 9), .plain (.isNil .ptr false (.tmp 8)), []⟩])
    (.cond (.tmp 9) (.seq (.region [⟨(some 4), .plain (.move (.const (.slice none 0 0))), []⟩])
      (.ret))
    (.skip)))
  (.seq (.seq (.region [⟨(some 10), .plain (.move (.tmp 1)), []⟩,
        ⟨(some 11), .plain (.len false (.tmp 10)), []⟩,
        ⟨(some 12), .plain (.move (.const (.int .i64 (0)))), []⟩])
    (.block 0 (.loop 1300 [0, 10, 11, 12])))
  (.seq (.region [⟨(some 21), .plain (.move (.tmp 0)), []⟩,
      ⟨(some 22), .plain (.nilCheck (.tmp 21)), []⟩,
      ⟨(some 23), .plain (.fieldAddr 4 (.tmp 22)), []⟩,
      ⟨(some 24), .plain (.load 1 false (.tmp 23)), []⟩,
      ⟨(some 7), .plain (.move (.tmp 24)), []⟩])
  (.seq (.region [⟨(some 25), .plain (.move (.tmp 0)), []⟩,
      ⟨(some 26), .plain (.nilCheck (.tmp 25)), []⟩,
      ⟨(some 27), .plain (.fieldAddr 4 (.tmp 26)), []⟩,
      ⟨none, .plain (.store 1 (.tmp 27) (.const (.slice none 0 0))), []⟩])
  (.seq (.region [⟨(some 28), .plain (.move (.tmp 7)), []⟩,
      ⟨(some 4), .plain (.move (.tmp 28)), []⟩])
  (.ret))))))⟩
theorem comp13 : compF Try.prog an13 Try.f13 = some ir13 := by kernel_rfl
theorem lps13 : loopsF Try.prog an13 Try.f13 = [(1300, [0, 10, 11, 12], some lb1300)] := by kernel_rfl
/-- (*noonmark/wire.Splitter).Rest -/
def an14 : An := (.s .z (.s (.s .z (.s (.s .z .z) .z)) (.s .z .z)))
def ir14 : IFun := ⟨10, [.tmp 2],
  .seq (.region [⟨(some 2), .plain (.move (.const (.slice none 0 0))), []⟩])
  (.seq (.seq (.region [⟨(some 3), .plain (.move (.tmp 0)), []⟩,
        ⟨(some 4), .plain (.isNil .ptr false (.tmp 3)), []⟩])
    (.cond (.tmp 4) (.seq (.region [⟨(some 2), .plain (.move (.const (.slice none 0 0))), []⟩])
      (.ret))
    (.skip)))
  (.seq (.region [⟨(some 5), .plain (.move (.tmp 0)), []⟩,
      ⟨(some 6), .plain (.nilCheck (.tmp 5)), []⟩,
      ⟨(some 7), .plain (.fieldAddr 1 (.tmp 6)), []⟩,
      ⟨(some 8), .plain (.load 1 false (.tmp 7)), []⟩,
      ⟨(some 9), .call 17 [(.tmp 8)], []⟩,
      ⟨(some 2), .plain (.move (.tmp 9)), []⟩])
  (.ret)))⟩
theorem comp14 : compF Try.prog an14 Try.f14 = some ir14 := by kernel_rfl
theorem lps14 : loopsF Try.prog an14 Try.f14 = [] := by kernel_rfl
/-- noonmark/noonmarkref01.first -/
def an15 : An := (.s .z (.s .z (.s (.b (.l 1500 [0, 2, 3, 4, 5, 6] (.s (.s .z (.s .z .z)) (.b (.s (.s .z (.s (.s .z .z) .z)) (.s .z .z)))))) (.s (.s .z (.s (.s .z .z) .z)) (.s (.s .z (.s (.s .z .z) .z)) (.s .z (.s (.s .z (.s (.s .z .z) .z)) (.s (.s .z (.s (.s .z .z) .z)) (.s .z .z)))))))))
def lb1500 : IC :=
  .seq (.seq (.region [⟨(some 7), .plain (.move (.tmp 6)), []⟩,
        ⟨(some 8), .plain (.move (.tmp 0)), []⟩,
        ⟨(some 9), .plain (.len false (.tmp 8)), []⟩,
        ⟨(some 10), .plain (.bin .lss (.tmp 7) (.tmp 9)), []⟩,
        ⟨(some 11), .plain (.move (.tmp 10)), []⟩,
        ⟨(some 12), .plain (.move (.tmp 0)), [(11, true)]⟩,
        ⟨(some 13), .plain (.move (.tmp 6)), [(11, true)]⟩,
        ⟨(some 14), .plain (.idx 1 (.tmp 12) (.tmp 13)), [(11, true)]⟩,
        ⟨(some 15), .plain (.load 1 false (.tmp 14)), [(11, true)]⟩,
        ⟨(some 16), .plain (.bin .geq (.tmp 15) (.const (.int .u8 (48)))), [(11, true)]⟩,
        ⟨(some 17), .plain (.pick (.tmp 11) (.tmp 16) (.const (.bool false))), []⟩,
        ⟨(some 18), .plain (.move (.tmp 17)), []⟩,
        ⟨(some 19), .plain (.move (.tmp 0)), [(18, true)]⟩,
        ⟨(some 20), .plain (.move (.tmp 6)), [(18, true)]⟩,
        ⟨(some 21), .plain (.idx 1 (.tmp 19) (.tmp 20)), [(18, true)]⟩,
        ⟨(some 22), .plain (.load 1 false (.tmp 21)), [(18, true)]⟩,
        ⟨(some 23), .plain (.bin .leq (.tmp 22) (.const (.int .u8 (57)))), [(18, true)]⟩,
        ⟨(some 24), .plain (.pick (.tmp 18) (.tmp 23) (.const (.bool false))), []⟩])
    (.cond (.tmp 24) (.skip)
    (.exit 0)))
  (.block 1 (.seq (.seq (.region [⟨(some 25), .plain (.move (.tmp 6)), []⟩,
          ⟨(some 26), .plain (.bin .eql (.tmp 25) (.const (.int .i64 (5)))), []⟩,
          ⟨(some 27), .plain (.move (.tmp 26)), []⟩,
          ⟨(some 28), .plain (.move (.tmp 6)), [(27, false)]⟩,
          ⟨(some 29), .plain (.bin .gtr (.tmp 28) (.const (.int .i64 (0)))), [(27, false)]⟩,
          ⟨(some 30), .plain (.move (.tmp 29)), [(27, false)]⟩,
          ⟨(some 31), .plain (.move (.tmp 5)), [(27, false), (30, true)]⟩,
          ⟨(some 32), .plain (.bin .eql (.tmp 31) (.const (.int .i64 (0)))), [(27, false), (30, true)]⟩,
          ⟨(some 33), .plain (.pick (.tmp 30) (.tmp 32) (.const (.bool false))), [(27, false)]⟩,
          ⟨(some 34), .plain (.pick (.tmp 27) (.const (.bool true)) (.tmp 33)), []⟩])
      (.cond (.tmp 34) (.seq (.region [⟨(some 35), .plain (.move (.tmp 6)), []⟩,
            ⟨(some 2), .plain (.move (.const (.int .i64 (2)))), []⟩,
            ⟨(some 3), .plain (.move (.tmp 35)), []⟩,
            ⟨(some 4), .plain (.move (.const (.slice none 0 0))), []⟩])
        (.ret))
      (.skip)))
    (.seq (.region [⟨(some 36), .plain (.move (.tmp 5)), []⟩,
        ⟨(some 37), .plain (.bin .mul (.tmp 36) (.const (.int .i64 (10)))), []⟩,
        ⟨(some 38), .plain (.move (.tmp 0)), []⟩,
        ⟨(some 39), .plain (.move (.tmp 6)), []⟩,
        ⟨(some 40), .plain (.idx 1 (.tmp 38) (.tmp 39)), []⟩,
        ⟨(some 41), .plain (.load 1 false (.tmp 40)), []⟩,
        ⟨(some 42), .plain (.bin .sub (.tmp 41) (.const (.int .u8 (48)))), []⟩,
        ⟨(some 43), .plain (.toInt .i64 (.tmp 42)), []⟩,
        ⟨(some 44), .plain (.bin .add (.tmp 37) (.tmp 43)), []⟩,
        ⟨(some 5), .plain (.move (.tmp 44)), []⟩])
    (.region [⟨(some 45), .plain (.move (.tmp 6)), []⟩,
      ⟨(some 46), .plain (.bin .add (.tmp 45) (.const (.int .i64 (1)))), []⟩,
      ⟨(some 6), .plain (.move (.tmp 46)), []⟩]))))
def ir15 : IFun := ⟨93, [.tmp 2, .tmp 3, .tmp 4],
  .seq (.region [⟨(some 2), .plain (.move (.const (.int .i64 (0)))), []⟩,
      ⟨(some 3), .plain (.move (.const (.int .i64 (0)))), []⟩,
      ⟨(some 4), .plain (.move (.const (.slice none 0 0))), []⟩])
  (.seq (.region [⟨(some 5), .plain (.move (.const (.int .i64 (0)))), []⟩,
      ⟨(some 6), .plain (.move (.const (.int .i64 (0)))), []⟩])
  (.seq (.block 0 (.loop 1500 [0, 2, 3, 4, 5, 6]))
  (.seq (.seq (.region [⟨(some 47), .plain (.move (.tmp 6)), []⟩,
        ⟨(some 48), .plain (.move (.tmp 0)), []⟩,
        ⟨(some 49), .plain (.len false (.tmp 48)), []⟩,
        ⟨(some 50), .plain (.bin .eql (.tmp 47) (.tmp 49)), []⟩])
    (.cond (.tmp 50) (.seq (.region [⟨(some 2), .plain (.move (.const (.int .i64 (0)))), []⟩,
          ⟨(some 3), .plain (.move (.const (.int .i64 (0)))), []⟩,
          ⟨(some 4), .plain (.move (.const (.slice none 0 0))), []⟩])
      (.ret))
    (.skip)))
  (.seq (.seq (.region [⟨(some 51), .plain (.move (.tmp 6)), []⟩,
        ⟨(some 52), .plain (.bin .eql (.tmp 51) (.const (.int .i64 (0)))), []⟩,
        ⟨(some 53), .plain (.move (.tmp 52)), []⟩,
        ⟨(some 54), .plain (.move (.tmp 0)), [(53, false)]⟩,
        ⟨(some 55), .plain (.move (.tmp 6)), [(53, false)]⟩,
        ⟨(some 56), .plain (.idx 1 (.tmp 54) (.tmp 55)), [(53, false)]⟩,
        ⟨(some 57), .plain (.load 1 false (.tmp 56)), [(53, false)]⟩,
        ⟨(some 58), .plain (.bin .neq (.tmp 57) (.const (.int .u8 (58)))), [(53, false)]⟩,
        ⟨(some 59), .plain (.pick (.tmp 53) (.const (.bool true)) (.tmp 58)), []⟩,
        ⟨(some 60), .plain (.move (.tmp 59)), []⟩,
        ⟨(some 61), .plain (.move (.tmp 5)), [(60, false)]⟩,
        ⟨(some 62), .plain (.bin .gtr (.tmp 61) (.const (.int .i64 (20000)))), [(60, false)]⟩,
        ⟨(some 63), .plain (.pick (.tmp 60) (.const (.bool true)) (.tmp 62)), []⟩])
    (.cond (.tmp 63) (.seq (.region [⟨(some 64), .plain (.move (.tmp 6)), []⟩,
          ⟨(some 2), .plain (.move (.const (.int .i64 (2)))), []⟩,
          ⟨(some 3), .plain (.move (.tmp 64)), []⟩,
          ⟨(some 4), .plain (.move (.const (.slice none 0 0))), []⟩])
      (.ret))
    (.skip)))
  (.seq (.region [⟨(some 65), .plain (.move (.tmp 6)), []⟩,
      ⟨(some 66), .plain (.bin .add (.tmp 65) (.const (.int .i64 (1)))), []⟩,
      ⟨(some 6), .plain (.move (.tmp 66)), []⟩])
  (.seq (.seq (.region [⟨(some 67), .plain (.move (.tmp 0)), []⟩,
        ⟨(some 68), .plain (.len false (.tmp 67)), []⟩,
        ⟨(some 69), .plain (.move (.tmp 6)), []⟩,
        ⟨(some 70), .plain (.bin .sub (.tmp 68) (.tmp 69)), []⟩,
        ⟨(some 71), .plain (.move (.tmp 5)), []⟩,
        ⟨(some 72), .plain (.bin .leq (.tmp 70) (.tmp 71)), []⟩])
    (.cond (.tmp 72) (.seq (.region [⟨(some 2), .plain (.move (.const (.int .i64 (0)))), []⟩,
          ⟨(some 3), .plain (.move (.const (.int .i64 (0)))), []⟩,
          ⟨(some 4), .plain (.move (.const (.slice none 0 0))), []⟩])
      (.ret))
    (.skip)))
  (.seq (.seq (.region [⟨(some 73), .plain (.move (.tmp 0)), []⟩,
        ⟨(some 74), .plain (.move (.tmp 6)), []⟩,
        ⟨(some 75), .plain (.move (.tmp 5)), []⟩,
        ⟨(some 76), .plain (.bin .add (.tmp 74) (.tmp 75)), []⟩,
        ⟨(some 77), .plain (.idx 1 (.tmp 73) (.tmp 76)), []⟩,
        ⟨(some 78), .plain (.load 1 false (.tmp 77)), []⟩,
        ⟨(some 79), .plain (.bin .neq (.tmp 78) (.const (.int .u8 (10)))), []⟩])
    (.cond (.tmp 79) (.seq (.region [⟨(some 80), .plain (.move (.tmp 6)), []⟩,
          ⟨(some 81), .plain (.move (.tmp 5)), []⟩,
          ⟨(some 82), .plain (.bin .add (.tmp 80) (.tmp 81)), []⟩,
          ⟨(some 2), .plain (.move (.const (.int .i64 (2)))), []⟩,
          ⟨(some 3), .plain (.move (.tmp 82)), []⟩,
          ⟨(some 4), .plain (.move (.const (.slice none 0 0))), []⟩])
      (.ret))
    (.skip)))
  (.seq (.draws [(⟨(some 83), .plain (.move (.tmp 6)), []⟩, [6], .pure),
      (⟨(some 84), .plain (.move (.tmp 5)), []⟩, [5], .pure),
      (⟨(some 85), .plain (.bin .add (.tmp 83) (.tmp 84)), []⟩, [83, 84], .pure),
      (⟨(some 86), .plain (.bin .add (.tmp 85) (.const (.int .i64 (1)))), []⟩, [85], .pure),
      (⟨(some 87), .plain (.move (.tmp 0)), []⟩, [0], .pure),
      (⟨(some 88), .plain (.move (.tmp 6)), []⟩, [6], .pure),
      (⟨(some 89), .plain (.move (.tmp 6)), []⟩, [6], .pure),
      (⟨(some 90), .plain (.move (.tmp 5)), []⟩, [5], .pure),
      (⟨(some 91), .plain (.bin .add (.tmp 89) (.tmp 90)), []⟩, [89, 90], .pure),
      (⟨(some 92), .plain (.cut 1 (.tmp 87) (some (.tmp 88)) (some (.tmp 91))), []⟩, [87, 88, 91], .quiet),
      (⟨(some 2), .plain (.move (.const (.int .i64 (1)))), []⟩, [], .pure),
      (⟨(some 3), .plain (.move (.tmp 86)), []⟩, [86], .pure),
      (⟨(some 4), .plain (.move (.tmp 92)), []⟩, [92], .pure)])
  (.ret)))))))))⟩
theorem comp15 : compF Try.prog an15 Try.f15 = some ir15 := by kernel_rfl
theorem lps15 : loopsF Try.prog an15 Try.f15 = [(1500, [0, 2, 3, 4, 5, 6], some lb1500)] := by kernel_rfl
/-- (*noonmark/wire.Splitter).take -/
def an16 : An := (.s .z (.s (.s .z (.b (.s .z (.s (.s .z .z) (.s .z (.s (.s .z .z) .z)))))) (.s .z .z)))
def ir16 : IFun := ⟨17, [.tmp 2],
  .seq (.region [⟨(some 2), .plain (.move (.const .nilFunc)), []⟩])
  (.seq (.seq (.region [⟨(some 3), .plain (.move (.tmp 0)), []⟩,
        ⟨(some 4), .plain (.nilCheck (.tmp 3)), []⟩,
        ⟨(some 5), .plain (.fieldAddr 0 (.tmp 4)), []⟩,
        ⟨(some 6), .plain (.load 1 false (.tmp 5)), []⟩])
    (.block 0 (.seq (.region [⟨(some 8), .plain (.bin .eql (.tmp 6) (.const (.int .i64 (1)))), []⟩,
          ⟨(some 7), .plain (.move (.tmp 8)), []⟩])
      (.cond (.tmp 7) (.seq (.region [⟨(some 9), .plain (.move (.tmp 0)), []⟩,
            ⟨(some 10), .plain (.func (.func 18) [(.tmp 9)] []), []⟩,
            ⟨(some 2), .plain (.move (.tmp 10)), []⟩])
        (.ret))
      (.seq (.region [⟨(some 12), .plain (.bin .eql (.tmp 6) (.const (.int .i64 (2)))), []⟩,
            ⟨(some 11), .plain (.move (.tmp 12)), []⟩])
        (.cond (.tmp 11) (.seq (.region [⟨(some 13), .plain (.move (.tmp 0)), []⟩,
              ⟨(some 14), .plain (.func (.func 19) [(.tmp 13)] []), []⟩,
              ⟨(some 2), .plain (.move (.tmp 14)), []⟩])
          (.ret))
        (.skip)))))))
  (.seq (.region [⟨(some 15), .plain (.move (.tmp 0)), []⟩,
      ⟨(some 16), .plain (.func (.func 20) [(.tmp 15)] []), []⟩,
      ⟨(some 2), .plain (.move (.tmp 16)), []⟩])
  (.ret)))⟩
theorem comp16 : compF Try.prog an16 Try.f16 = some ir16 := by kernel_rfl
theorem lps16 : loopsF Try.prog an16 Try.f16 = [] := by kernel_rfl
/-- slices.Clone[[]byte,byte] -/
def an17 : An := (.s .z (.s (.s .z (.s (.s .z .z) .z)) (.s .z .z)))
def ir17 : IFun := ⟨8, [.tmp 2],
  .seq (.region [⟨(some 2), .plain (.move (.const (.slice none 0 0))), []⟩])
  (.seq (.seq (.region [⟨(some 3), .plain (.move (.tmp 0)), []⟩,
        ⟨(some 4), .plain (.isNil .slc false (.tmp 3)), []⟩])
    (.cond (.tmp 4) (.seq (.region [⟨(some 2), .plain (.move (.const (.slice none 0 0))), []⟩])
      (.ret))
    (.skip)))
  (.seq (.region [⟨(some 5), .plain (.lit 1 0 [(.int .u8 (0))] []), []⟩,
      ⟨(some 6), .plain (.move (.tmp 0)), []⟩,
      ⟨(some 7), .plain (.app false 1 1 (.tmp 5) (.tmp 6)), []⟩,
      ⟨(some 2), .plain (.move (.tmp 7)), []⟩])
  (.ret)))⟩
theorem comp17 : compF Try.prog an17 Try.f17 = some ir17 := by kernel_rfl
theorem lps17 : loopsF Try.prog an17 Try.f17 = [] := by kernel_rfl
/-- (*noonmark/wire.Splitter).byte -/
def an18 : An := (.s (.s .z (.s (.s .z (.s .z .z)) .z)) (.s (.s .z (.s (.s .z .z) .z)) (.s .z .z)))
def ir18 : IFun := ⟨59, [],
  .seq (.seq (.region [⟨(some 4), .plain (.move (.tmp 0)), []⟩,
        ⟨(some 5), .plain (.nilCheck (.tmp 4)), []⟩,
        ⟨(some 6), .plain (.fieldAddr 3 (.tmp 5)), []⟩,
        ⟨(some 7), .plain (.load 1 false (.tmp 6)), []⟩,
        ⟨(some 8), .plain (.bin .gtr (.tmp 7) (.const (.int .i64 (0)))), []⟩])
    (.cond (.tmp 8) (.seq (.region [⟨(some 9), .plain (.move (.tmp 0)), []⟩,
          ⟨(some 10), .plain (.nilCheck (.tmp 9)), []⟩,
          ⟨(some 11), .plain (.fieldAddr 3 (.tmp 10)), []⟩,
          ⟨(some 12), .plain (.load 1 false (.tmp 11)), []⟩,
          ⟨(some 13), .plain (.bin .sub (.tmp 12) (.const (.int .i64 (1)))), []⟩,
          ⟨(some 14), .plain (.nilCheck (.tmp 9)), []⟩,
          ⟨(some 15), .plain (.fieldAddr 3 (.tmp 14)), []⟩,
          ⟨none, .plain (.store 1 (.tmp 15) (.tmp 13)), []⟩])
      (.seq (.region [⟨(some 16), .plain (.move (.tmp 0)), []⟩,
          ⟨(some 17), .plain (.move (.tmp 0)), []⟩,
          ⟨(some 18), .plain (.nilCheck (.tmp 17)), []⟩,
          ⟨(some 19), .plain (.fieldAddr 1 (.tmp 18)), []⟩,
          ⟨(some 20), .plain (.load 1 false (.tmp 19)), []⟩,
          ⟨(some 21), .plain (.move (.tmp 1)), []⟩,
          ⟨(some 22), .plain (.lit 1 1 [(.int .u8 (0))] [(0, (.tmp 21))]), []⟩,
          ⟨(some 23), .plain (.app false 1 1 (.tmp 20) (.tmp 22)), []⟩,
          ⟨(some 24), .plain (.nilCheck (.tmp 16)), []⟩,
          ⟨(some 25), .plain (.fieldAddr 1 (.tmp 24)), []⟩,
          ⟨none, .plain (.store 1 (.tmp 25) (.tmp 23)), []⟩])
      (.ret)))
    (.skip)))
  (.seq (.seq (.region [⟨(some 26), .plain (.move (.tmp 1)), []⟩,
        ⟨(some 27), .plain (.bin .neq (.tmp 26) (.const (.int .u8 (10)))), []⟩])
    (.cond (.tmp 27) (.seq (.region [⟨(some 28), .plain (.move (.tmp 0)), []⟩,
          ⟨(some 29), .plain (.move (.tmp 1)), []⟩,
          ⟨(some 30), .call 21 [(.tmp 28), (.tmp 29)], []⟩])
      (.ret))
    (.skip)))
  (.seq (.draws [(⟨(some 31), .plain (.move (.tmp 0)), []⟩, [0], .pure),
      (⟨(some 32), .plain (.move (.tmp 0)), []⟩, [0], .pure),
      (⟨(some 33), .plain (.nilCheck (.tmp 32)), []⟩, [32], .pure),
      (⟨(some 34), .plain (.fieldAddr 4 (.tmp 33)), []⟩, [33], .pure),
      (⟨(some 35), .plain (.load 1 false (.tmp 34)), []⟩, [34], .quiet),
      (⟨(some 36), .plain (.move (.tmp 0)), []⟩, [0], .pure),
      (⟨(some 37), .plain (.nilCheck (.tmp 36)), []⟩, [36], .pure),
      (⟨(some 38), .plain (.fieldAddr 1 (.tmp 37)), []⟩, [37], .pure),
      (⟨(some 39), .plain (.load 1 false (.tmp 38)), []⟩, [38], .quiet),
      (⟨(some 40), .plain (.move (.tmp 0)), []⟩, [0], .pure),
      (⟨(some 41), .plain (.nilCheck (.tmp 40)), []⟩, [40], .pure),
      (⟨(some 42), .plain (.fieldAddr 1 (.tmp 41)), []⟩, [41], .pure),
      (⟨(some 43), .plain (.load 1 false (.tmp 42)), []⟩, [42], .quiet),
      (⟨(some 44), .plain (.len false (.tmp 43)), []⟩, [43], .pure),
      (⟨(some 45), .plain (.move (.tmp 0)), []⟩, [0], .pure),
      (⟨(some 46), .plain (.nilCheck (.tmp 45)), []⟩, [45], .pure),
      (⟨(some 47), .plain (.fieldAddr 2 (.tmp 46)), []⟩, [46], .pure),
      (⟨(some 48), .plain (.load 1 false (.tmp 47)), []⟩, [47], .quiet),
      (⟨(some 49), .plain (.bin .sub (.tmp 44) (.tmp 48)), []⟩, [44, 48], .pure),
      (⟨(some 50), .plain (.cut 1 (.tmp 39) (some (.tmp 49)) none), []⟩, [39, 49], .quiet),
      (⟨(some 51), .call 17 [(.tmp 50)], []⟩, [50], .quiet),
      (⟨(some 52), .plain (.build [(0, 1), (1, 1)] [(.bool false), (.slice none 0 0)] [(1, (.tmp 51))]), []⟩, [51], .pure),
      (⟨(some 53), .plain (.lit 2 1 [(.bool false), (.slice none 0 0)] [(0, (.tmp 52))]), []⟩, [52], .quiet),
      (⟨(some 54), .plain (.app false 2 32 (.tmp 35) (.tmp 53)), []⟩, [35, 53], .lone),
      (⟨(some 55), .plain (.nilCheck (.tmp 31)), []⟩, [31], .pure),
      (⟨(some 56), .plain (.fieldAddr 4 (.tmp 55)), []⟩, [55], .pure),
      (⟨none, .plain (.store 1 (.tmp 56) (.tmp 54)), []⟩, [56, 54], .lone)])
  (.region [⟨(some 57), .plain (.move (.tmp 0)), []⟩,
    ⟨(some 58), .call 22 [(.tmp 57)], []⟩])))⟩
theorem comp18 : compF Try.prog an18 Try.f18 = some ir18 := by kernel_rfl
theorem lps18 : loopsF Try.prog an18 Try.f18 = [] := by kernel_rfl
/-- (*noonmark/wire.Splitter).pass -/
def an19 : An := (.s .z (.s .z .z))
def ir19 : IFun := ⟨8, [],
  .seq (.region [⟨(some 4), .plain (.move (.tmp 1)), []⟩,
      ⟨(some 5), .plain (.bin .eql (.tmp 4) (.const (.int .u8 (10)))), []⟩])
  (.cond (.tmp 5) (.region [⟨(some 6), .plain (.move (.tmp 0)), []⟩,
      ⟨(some 7), .call 22 [(.tmp 6)], []⟩])
  (.skip))⟩
theorem comp19 : compF Try.prog an19 Try.f19 = some ir19 := by kernel_rfl
theorem lps19 : loopsF Try.prog an19 Try.f19 = [] := by kernel_rfl
/-- (*noonmark/wire.Splitter).digit -/
def an20 : An := (.s .z (.k [0, 1] (.b (.s .z (.s (.s (.s .z (.s (.s .z .z) .z)) .z) (.k [0, 1, 55] (.s .z (.s .z (.s .z (.s .z .z)))) (.s (.s .z .z) .z))))) .z))
def ir20 : IFun := ⟨78, [],
  .seq (.region [⟨(some 5), .plain (.move (.tmp 0)), []⟩,
      ⟨(some 6), .plain (.nilCheck (.tmp 5)), []⟩,
      ⟨(some 7), .plain (.fieldAddr 1 (.tmp 6)), []⟩,
      ⟨(some 8), .plain (.load 1 false (.tmp 7)), []⟩,
      ⟨(some 9), .plain (.len false (.tmp 8)), []⟩,
      ⟨(some 4), .plain (.move (.tmp 9)), []⟩])
  (.cut [0, 1] (.block 0 (.seq (.region [⟨(some 21), .plain (.move (.tmp 1)), []⟩,
          ⟨(some 22), .plain (.bin .leq (.const (.int .u8 (48))) (.tmp 21)), []⟩,
          ⟨(some 23), .plain (.move (.tmp 22)), []⟩,
          ⟨(some 24), .plain (.move (.tmp 1)), [(23, true)]⟩,
          ⟨(some 25), .plain (.bin .leq (.tmp 24) (.const (.int .u8 (57)))), [(23, true)]⟩,
          ⟨(some 26), .plain (.pick (.tmp 23) (.tmp 25) (.const (.bool false))), []⟩,
          ⟨(some 20), .plain (.move (.tmp 26)), []⟩])
      (.cond (.tmp 20) (.seq (.seq (.region [⟨(some 27), .plain (.move (.tmp 4)), []⟩,
              ⟨(some 28), .plain (.bin .eql (.tmp 27) (.const (.int .i64 (5)))), []⟩,
              ⟨(some 29), .plain (.move (.tmp 28)), []⟩,
              ⟨(some 30), .plain (.move (.tmp 4)), [(29, false)]⟩,
              ⟨(some 31), .plain (.bin .gtr (.tmp 30) (.const (.int .i64 (0)))), [(29, false)]⟩,
              ⟨(some 32), .plain (.move (.tmp 31)), [(29, false)]⟩,
              ⟨(some 33), .plain (.move (.tmp 0)), [(29, false), (32, true)]⟩,
              ⟨(some 34), .plain (.nilCheck (.tmp 33)), [(29, false), (32, true)]⟩,
              ⟨(some 35), .plain (.fieldAddr 2 (.tmp 34)), [(29, false), (32, true)]⟩,
              ⟨(some 36), .plain (.load 1 false (.tmp 35)), [(29, false), (32, true)]⟩,
              ⟨(some 37), .plain (.bin .eql (.tmp 36) (.const (.int .i64 (0)))), [(29, false), (32, true)]⟩,
              ⟨(some 38), .plain (.pick (.tmp 32) (.tmp 37) (.const (.bool false))), [(29, false)]⟩,
              ⟨(some 39), .plain (.pick (.tmp 29) (.const (.bool true)) (.tmp 38)), []⟩])
          (.cond (.tmp 39) (.seq (.region [⟨(some 40), .plain (.move (.tmp 0)), []⟩,
                ⟨(some 41), .plain (.move (.tmp 1)), []⟩,
                ⟨(some 42), .call 21 [(.tmp 40), (.tmp 41)], []⟩])
            (.ret))
          (.skip)))
        (.region [⟨(some 43), .plain (.move (.tmp 0)), []⟩,
          ⟨(some 44), .plain (.move (.tmp 0)), []⟩,
          ⟨(some 45), .plain (.nilCheck (.tmp 44)), []⟩,
          ⟨(some 46), .plain (.fieldAddr 2 (.tmp 45)), []⟩,
          ⟨(some 47), .plain (.load 1 false (.tmp 46)), []⟩,
          ⟨(some 48), .plain (.bin .mul (.tmp 47) (.const (.int .i64 (10)))), []⟩,
          ⟨(some 49), .plain (.move (.tmp 1)), []⟩,
          ⟨(some 50), .plain (.bin .sub (.tmp 49) (.const (.int .u8 (48)))), []⟩,
          ⟨(some 51), .plain (.toInt .i64 (.tmp 50)), []⟩,
          ⟨(some 52), .plain (.bin .add (.tmp 48) (.tmp 51)), []⟩,
          ⟨(some 53), .plain (.nilCheck (.tmp 43)), []⟩,
          ⟨(some 54), .plain (.fieldAddr 2 (.tmp 53)), []⟩,
          ⟨none, .plain (.store 1 (.tmp 54) (.tmp 52)), []⟩]))
      (.cut [0, 1, 55] (.seq (.region [⟨(some 56), .plain (.move (.tmp 1)), []⟩,
              ⟨(some 57), .plain (.bin .neq (.tmp 56) (.const (.int .u8 (58)))), []⟩,
              ⟨(some 55), .plain (.move (.tmp 57)), []⟩])
          (.cond (.tmp 55) (.skip)
          (.seq (.region [⟨(some 58), .plain (.move (.tmp 4)), []⟩,
                ⟨(some 59), .plain (.bin .eql (.tmp 58) (.const (.int .i64 (0)))), []⟩,
                ⟨(some 55), .plain (.move (.tmp 59)), []⟩])
            (.cond (.tmp 55) (.skip)
            (.region [⟨(some 60), .plain (.move (.tmp 0)), []⟩,
                ⟨(some 61), .plain (.nilCheck (.tmp 60)), []⟩,
                ⟨(some 62), .plain (.fieldAddr 2 (.tmp 61)), []⟩,
                ⟨(some 63), .plain (.load 1 false (.tmp 62)), []⟩,
                ⟨(some 64), .plain (.bin .gtr (.tmp 63) (.const (.int .i64 (20000)))), []⟩,
                ⟨(some 55), .plain (.move (.tmp 64)), []⟩])))))
        (.cond (.tmp 55) (.seq (.region [⟨(some 65), .plain (.move (.tmp 0)), []⟩,
              ⟨(some 66), .plain (.move (.tmp 1)), []⟩,
              ⟨(some 67), .call 21 [(.tmp 65), (.tmp 66)], []⟩])
          (.ret))
        (.region [⟨(some 10), .plain (.move (.tmp 0)), []⟩,
            ⟨(some 11), .plain (.move (.tmp 0)), []⟩,
            ⟨(some 12), .plain (.move (.tmp 0)), []⟩,
            ⟨(some 13), .plain (.nilCheck (.tmp 12)), []⟩,
            ⟨(some 14), .plain (.fieldAddr 2 (.tmp 13)), []⟩,
            ⟨(some 15), .plain (.load 1 false (.tmp 14)), []⟩,
            ⟨(some 16), .plain (.nilCheck (.tmp 10)), []⟩,
            ⟨(some 17), .plain (.fieldAddr 0 (.tmp 16)), []⟩,
            ⟨none, .plain (.store 1 (.tmp 17) (.const (.int .i64 (1)))), []⟩,
            ⟨(some 18), .plain (.nilCheck (.tmp 11)), []⟩,
            ⟨(some 19), .plain (.fieldAddr 3 (.tmp 18)), []⟩,
            ⟨none, .plain (.store 1 (.tmp 19) (.tmp 15)), []⟩]))))))
  (.region [⟨(some 68), .plain (.move (.tmp 0)), []⟩,
    ⟨(some 69), .plain (.move (.tmp 0)), []⟩,
    ⟨(some 70), .plain (.nilCheck (.tmp 69)), []⟩,
    ⟨(some 71), .plain (.fieldAddr 1 (.tmp 70)), []⟩,
    ⟨(some 72), .plain (.load 1 false (.tmp 71)), []⟩,
    ⟨(some 73), .plain (.move (.tmp 1)), []⟩,
    ⟨(some 74), .plain (.lit 1 1 [(.int .u8 (0))] [(0, (.tmp 73))]), []⟩,
    ⟨(some 75), .plain (.app false 1 1 (.tmp 72) (.tmp 74)), []⟩,
    ⟨(some 76), .plain (.nilCheck (.tmp 68)), []⟩,
    ⟨(some 77), .plain (.fieldAddr 1 (.tmp 76)), []⟩,
    ⟨none, .plain (.store 1 (.tmp 77) (.tmp 75)), []⟩]))⟩
theorem comp20 : compF Try.prog an20 Try.f20 = some ir20 := by kernel_rfl
theorem lps20 : loopsF Try.prog an20 Try.f20 = [] := by kernel_rfl
/-- (*noonmark/wire.Splitter).bad -/
def an21 : An := (.s .z (.s .z (.s .z (.s .z .z))))
def ir21 : IFun := ⟨21, [],
  .seq (.region [⟨(some 4), .plain (.move (.tmp 0)), []⟩,
      ⟨(some 5), .plain (.move (.tmp 0)), []⟩,
      ⟨(some 6), .plain (.nilCheck (.tmp 5)), []⟩,
      ⟨(some 7), .plain (.fieldAddr 4 (.tmp 6)), []⟩,
      ⟨(some 8), .plain (.load 1 false (.tmp 7)), []⟩,
      ⟨(some 9), .plain (.build [(0, 1), (1, 1)] [(.bool false), (.slice none 0 0)] [(0, (.const (.bool true)))]), []⟩,
      ⟨(some 10), .plain (.lit 2 1 [(.bool false), (.slice none 0 0)] [(0, (.tmp 9))]), []⟩,
      ⟨(some 11), .plain (.app false 2 32 (.tmp 8) (.tmp 10)), []⟩,
      ⟨(some 12), .plain (.nilCheck (.tmp 4)), []⟩,
      ⟨(some 13), .plain (.fieldAddr 4 (.tmp 12)), []⟩,
      ⟨none, .plain (.store 1 (.tmp 13) (.tmp 11)), []⟩])
  (.seq (.region [⟨(some 14), .plain (.move (.tmp 0)), []⟩,
      ⟨(some 15), .call 22 [(.tmp 14)], []⟩])
  (.seq (.region [⟨(some 16), .plain (.move (.tmp 1)), []⟩,
      ⟨(some 17), .plain (.bin .neq (.tmp 16) (.const (.int .u8 (10)))), []⟩])
  (.cond (.tmp 17) (.region [⟨(some 18), .plain (.move (.tmp 0)), []⟩,
      ⟨(some 19), .plain (.nilCheck (.tmp 18)), []⟩,
      ⟨(some 20), .plain (.fieldAddr 0 (.tmp 19)), []⟩,
      ⟨none, .plain (.store 1 (.tmp 20) (.const (.int .i64 (2)))), []⟩])
  (.skip))))⟩
theorem comp21 : compF Try.prog an21 Try.f21 = some ir21 := by kernel_rfl
theorem lps21 : loopsF Try.prog an21 Try.f21 = [] := by kernel_rfl
/-- (*noonmark/wire.Splitter).begin -/
def an22 : An := .z
def ir22 : IFun := ⟨14, [],
  .region [⟨(some 2), .plain (.move (.tmp 0)), []⟩,
    ⟨(some 3), .plain (.move (.tmp 0)), []⟩,
    ⟨(some 4), .plain (.move (.tmp 0)), []⟩,
    ⟨(some 5), .plain (.move (.tmp 0)), []⟩,
    ⟨(some 6), .plain (.nilCheck (.tmp 2)), []⟩,
    ⟨(some 7), .plain (.fieldAddr 0 (.tmp 6)), []⟩,
    ⟨none, .plain (.store 1 (.tmp 7) (.const (.int .i64 (0)))), []⟩,
    ⟨(some 8), .plain (.nilCheck (.tmp 3)), []⟩,
    ⟨(some 9), .plain (.fieldAddr 1 (.tmp 8)), []⟩,
    ⟨none, .plain (.store 1 (.tmp 9) (.const (.slice none 0 0))), []⟩,
    ⟨(some 10), .plain (.nilCheck (.tmp 4)), []⟩,
    ⟨(some 11), .plain (.fieldAddr 2 (.tmp 10)), []⟩,
    ⟨none, .plain (.store 1 (.tmp 11) (.const (.int .i64 (0)))), []⟩,
    ⟨(some 12), .plain (.nilCheck (.tmp 5)), []⟩,
    ⟨(some 13), .plain (.fieldAddr 3 (.tmp 12)), []⟩,
    ⟨none, .plain (.store 1 (.tmp 13) (.const (.int .i64 (0)))), []⟩]⟩
theorem comp22 : compF Try.prog an22 Try.f22 = some ir22 := by kernel_rfl
theorem lps22 : loopsF Try.prog an22 Try.f22 = [] := by kernel_rfl
def irsT : List (Nat × IFun) := [(3, ir3), (4, ir4), (5, ir5), (6, ir6), (7, ir7), (8, ir8), (9, ir9), (10, ir10), (11, ir11), (12, ir12), (13, ir13), (14, ir14), (15, ir15), (16, ir16), (17, ir17), (18, ir18), (19, ir19), (20, ir20), (21, ir21), (22, ir22)]
def lpsT : List (Nat × List Nat × IC) := [(400, [0, 1, 5, 6, 7, 8], lb400), (700, [0, 2, 3, 4], lb700), (701, [0, 2, 3, 4, 6], lb701), (800, [0, 1, 4, 5], lb800), (900, [0, 3, 4], lb900), (1000, [0, 1, 4, 5], lb1000), (1300, [0, 10, 11, 12], lb1300), (1500, [0, 2, 3, 4, 5, 6], lb1500)]
/-- The code, with what is given. -/
def CC (gv : FuncId → Option (List Value → Mem → Option (Value × Mem))) : Code? := ⟨look irsT, look lpsT, gv⟩
theorem CC_fit (gv : FuncId → Option (List Value → Mem → Option (Value × Mem))) : ∀ f fn, (CC gv).irs f = some fn → FitF Try.prog (CC gv) f fn := by
  intro f fn h
  have hm := look_mem h
  simp only [irsT, List.mem_cons, List.not_mem_nil, or_false, Prod.mk.injEq] at hm
  rcases hm with ⟨rfl, rfl⟩ | ⟨rfl, rfl⟩ | ⟨rfl, rfl⟩ | ⟨rfl, rfl⟩ | ⟨rfl, rfl⟩ | ⟨rfl, rfl⟩ | ⟨rfl, rfl⟩ | ⟨rfl, rfl⟩ | ⟨rfl, rfl⟩ | ⟨rfl, rfl⟩ | ⟨rfl, rfl⟩ | ⟨rfl, rfl⟩ | ⟨rfl, rfl⟩ | ⟨rfl, rfl⟩ | ⟨rfl, rfl⟩ | ⟨rfl, rfl⟩ | ⟨rfl, rfl⟩ | ⟨rfl, rfl⟩ | ⟨rfl, rfl⟩ | ⟨rfl, rfl⟩
  · exact compF_fit Try.func3 comp3 (by rw [lps3]; intro x hx; cases hx)
  · exact compF_fit Try.func4 comp4 (by rw [lps4]; intro x hx; simp only [List.mem_cons, List.not_mem_nil, or_false] at hx; rcases hx with rfl <;> exact ⟨_, rfl, rfl⟩)
  · exact compF_fit Try.func5 comp5 (by rw [lps5]; intro x hx; cases hx)
  · exact compF_fit Try.func6 comp6 (by rw [lps6]; intro x hx; cases hx)
  · exact compF_fit Try.func7 comp7 (by rw [lps7]; intro x hx; simp only [List.mem_cons, List.not_mem_nil, or_false] at hx; rcases hx with rfl | rfl <;> exact ⟨_, rfl, rfl⟩)
  · exact compF_fit Try.func8 comp8 (by rw [lps8]; intro x hx; simp only [List.mem_cons, List.not_mem_nil, or_false] at hx; rcases hx with rfl <;> exact ⟨_, rfl, rfl⟩)
  · exact compF_fit Try.func9 comp9 (by rw [lps9]; intro x hx; simp only [List.mem_cons, List.not_mem_nil, or_false] at hx; rcases hx with rfl <;> exact ⟨_, rfl, rfl⟩)
  · exact compF_fit Try.func10 comp10 (by rw [lps10]; intro x hx; simp only [List.mem_cons, List.not_mem_nil, or_false] at hx; rcases hx with rfl <;> exact ⟨_, rfl, rfl⟩)
  · exact compF_fit Try.func11 comp11 (by rw [lps11]; intro x hx; cases hx)
  · exact compF_fit Try.func12 comp12 (by rw [lps12]; intro x hx; cases hx)
  · exact compF_fit Try.func13 comp13 (by rw [lps13]; intro x hx; simp only [List.mem_cons, List.not_mem_nil, or_false] at hx; rcases hx with rfl <;> exact ⟨_, rfl, rfl⟩)
  · exact compF_fit Try.func14 comp14 (by rw [lps14]; intro x hx; cases hx)
  · exact compF_fit Try.func15 comp15 (by rw [lps15]; intro x hx; simp only [List.mem_cons, List.not_mem_nil, or_false] at hx; rcases hx with rfl <;> exact ⟨_, rfl, rfl⟩)
  · exact compF_fit Try.func16 comp16 (by rw [lps16]; intro x hx; cases hx)
  · exact compF_fit Try.func17 comp17 (by rw [lps17]; intro x hx; cases hx)
  · exact compF_fit Try.func18 comp18 (by rw [lps18]; intro x hx; cases hx)
  · exact compF_fit Try.func19 comp19 (by rw [lps19]; intro x hx; cases hx)
  · exact compF_fit Try.func20 comp20 (by rw [lps20]; intro x hx; cases hx)
  · exact compF_fit Try.func21 comp21 (by rw [lps21]; intro x hx; cases hx)
  · exact compF_fit Try.func22 comp22 (by rw [lps22]; intro x hx; cases hx)
end Go.Proofs.Ythihiidooomdnaa.D
