/- What is proved here: one fact: what a call of a pure function gives, reckoned by the kernel. -/
import Derived.Test.YtfhalbmnklmmaabGreatDoorB1
set_option maxRecDepth 100000
set_option maxHeartbeats 0
namespace Go.Proofs.YtfhalbmnklmmaabGreatDoor.allocateNames
open Go Go.Abs

theorem factRun15 : reckons [fact0, fact1, fact2, fact3, fact4, fact5, fact6, fact7, fact8, fact9, fact10, fact11, fact12, fact13, fact14] fact15 = true := by kernel_rfl
end Go.Proofs.YtfhalbmnklmmaabGreatDoor.allocateNames
