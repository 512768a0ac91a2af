/- The law's call on the abstract machine, run by the kernel: numbers of these shapes. No condition. -/
import Derived.Test.YtonhkjkdmfaodaaGreatDoorTwFacts
namespace Go.Proofs.YtonhkjkdmfaodaaGreatDoor.textWords
open Go.RowKit Go.AL

theorem runsNeg (k : Nat) : Run (Int.negSucc k) := by unfold Run; kernel_rfl
theorem runs0  : Run (Int.ofNat 0) := by unfold Run; kernel_rfl
end Go.Proofs.YtonhkjkdmfaodaaGreatDoor.textWords
