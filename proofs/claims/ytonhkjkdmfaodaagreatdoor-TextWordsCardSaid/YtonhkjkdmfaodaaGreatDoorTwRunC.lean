/- The law's call on the abstract machine, run by the kernel: numbers of these shapes. No condition. -/
import Derived.Test.YtonhkjkdmfaodaaGreatDoorTwFacts
namespace Go.Proofs.YtonhkjkdmfaodaaGreatDoor.textWords
open Go.RowKit Go.AL

theorem runs3  : Run (Int.ofNat 3) := by unfold Run; kernel_rfl
theorem runsBig (k : Nat) : Run (Int.ofNat (k + 4)) := by unfold Run; kernel_rfl
end Go.Proofs.YtonhkjkdmfaodaaGreatDoor.textWords
