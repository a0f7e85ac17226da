/- What is proved here: the law's own run, out of the facts, reckoned by the kernel. -/
import Derived.Test.YtajbdbjkpglgfaaGreatDoorB1
set_option maxRecDepth 100000
set_option maxHeartbeats 0
namespace Go.Proofs.YtajbdbjkpglgfaaGreatDoor.unwindNames
open Go Go.Abs

theorem law_run : evFF E.G false E.P tab (orcK facts) 1000000 100 (.fn (.func 3) [] []) [] .leaf 0 (fun r _ _ _ _ => eqC false false 2 r (.bool true) true) = true := by kernel_rfl
end Go.Proofs.YtajbdbjkpglgfaaGreatDoor.unwindNames
