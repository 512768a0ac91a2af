/- The law's call on the abstract machine, run by the kernel: numbers of these shapes. No condition. -/
import Derived.Test.YtonhkjkdmfaodaaGreatDoorTwFacts
namespace Go.Proofs.YtonhkjkdmfaodaaGreatDoor.textWords
open Go.RowKit Go.AL

theorem runs1  : Run (Int.ofNat 1) := by unfold Run; kernel_rfl
theorem runs2  : Run (Int.ofNat 2) := by unfold Run; kernel_rfl
end Go.Proofs.YtonhkjkdmfaodaaGreatDoor.textWords
