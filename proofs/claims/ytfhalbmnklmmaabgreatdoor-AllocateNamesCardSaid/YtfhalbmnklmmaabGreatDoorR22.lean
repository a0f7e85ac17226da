/- What is proved here: one fact: what a call of a pure function gives, reckoned by the kernel. -/
import Derived.Test.YtfhalbmnklmmaabGreatDoorB1
set_option maxRecDepth 100000
set_option maxHeartbeats 0
namespace Go.Proofs.YtfhalbmnklmmaabGreatDoor.allocateNames
open Go Go.Abs

theorem factRun22 : reckons [fact0, fact1, fact2, fact3, fact4, fact8, fact15, fact16, fact17, fact18, fact19, fact20, fact21] fact22 = true := by kernel_rfl
end Go.Proofs.YtfhalbmnklmmaabGreatDoor.allocateNames
