/- What is proved here: one fact: what a call of a pure function gives, reckoned by the kernel. -/
import Derived.Test.YtajbdbjkpglgfaaGreatDoorB1
set_option maxRecDepth 100000
set_option maxHeartbeats 0
namespace Go.Proofs.YtajbdbjkpglgfaaGreatDoor.unwindNames
open Go Go.Abs

theorem factRun0 : reckons [] fact0 = true := by kernel_rfl
end Go.Proofs.YtajbdbjkpglgfaaGreatDoor.unwindNames
