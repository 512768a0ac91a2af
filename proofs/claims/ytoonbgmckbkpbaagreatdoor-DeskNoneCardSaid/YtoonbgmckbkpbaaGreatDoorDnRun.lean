/- The law's call on the abstract machine, run by the kernel: it answers true, whatever the two numbers are. No condition. -/
import Derived.Test.YtoonbgmckbkpbaaGreatDoorDnFacts
namespace Go.Proofs.YtoonbgmckbkpbaaGreatDoor.deskNone
open Go.RowKit Go.AL

theorem runs (a b : Int) : okRun 11 (evalS Tryz.prog 11 (FofP Tryz.prog) (xOf xs) 1000000 (.call 3 #[.int .i64 a, .int .i64 b]) (gHeap tabs) 11 11) = true := by kernel_rfl
end Go.Proofs.YtoonbgmckbkpbaaGreatDoor.deskNone
