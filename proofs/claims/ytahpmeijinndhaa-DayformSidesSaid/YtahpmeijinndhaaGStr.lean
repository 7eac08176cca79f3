/-
  Contracts of functions of Go's library that have no body to be walked here, in the form of the printed contracts, out of the shelf's own.
-/
import Derived.Test.YtahpmeijinndhaaGBase
import Derived.Test.YtahpmeijinndhaaShelf
import Derived.Test.YtahpmeijinndhaaWWords
namespace Go.Proofs.Ytahpmeijinndhaa.P
open Go.RowKit Go.Proofs.YtahpmeijinndhaaW.PrintWords
set_option linter.unusedVariables false

def strings_Index.f (a0 a1 : ByteArray) : Option Int := if a0.size < 4294967281 then some (Lib.index a0.data.toList a1.data.toList) else none
theorem strings_Index.calls (a0 a1 : ByteArray) (r : Int) (w : World) (hG : GOK w) (h : strings_Index.f a0 a1 = some r) :
    Calls Try.prog 20 #[.string a0, .string a1] w fun e w' => e = .returned (.int .i64 r) ∧ Drawn0 w w' := by
  unfold strings_Index.f at h
  split at h
  · obtain rfl := Option.some.inj h
    obtain ⟨m, hm⟩ := hG.maxLen
    refine (Try.strings_Index a0 a1 m w ‹_› hm).mono ?_
    rintro e w' ⟨rfl, rfl⟩
    exact ⟨rfl, Drawn0.refl _⟩
  · cases h

def strings_Cut.f (a0 a1 : ByteArray) : Option (ByteArray × ByteArray × Bool) := if a0.size < 4294967281 then some (⟨(Lib.cut a0.data.toList a1.data.toList).1.toArray⟩, ⟨(Lib.cut a0.data.toList a1.data.toList).2.1.toArray⟩, (Lib.cut a0.data.toList a1.data.toList).2.2) else none
theorem strings_Cut.calls (a0 a1 : ByteArray) (r1 r2 : ByteArray) (r3 : Bool) (w : World) (hG : GOK w) (h : strings_Cut.f a0 a1 = some (r1, r2, r3)) :
    Calls Try.prog 21 #[.string a0, .string a1] w fun e w' => e = .returned (.tuple #[.string r1, .string r2, .bool r3]) ∧ Drawn0 w w' := by
  unfold strings_Cut.f at h
  split at h
  · simp only [Option.some.injEq, Prod.mk.injEq] at h
    obtain ⟨rfl, rfl, rfl⟩ := h
    obtain ⟨m, hm⟩ := hG.maxLen
    refine (Try.strings_Cut a0 a1 m w ‹_› hm).mono ?_
    rintro e w' ⟨rfl, hn⟩
    exact ⟨rfl, ⟨hn⟩⟩
  · cases h
end Go.Proofs.Ytahpmeijinndhaa.P
