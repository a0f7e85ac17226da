/- What is proved here: one fact: what a call of a pure function gives, reckoned by the kernel. -/
import Derived.Test.YtfhalbmnklmmaaaGreatDoorB1
set_option maxRecDepth 100000
namespace Go.Proofs.YtfhalbmnklmmaaaGreatDoor.interfereNames
open Go Go.Abs

theorem factRun1 : reckons [fact0] fact1 = true := by kernel_rfl
end Go.Proofs.YtfhalbmnklmmaaaGreatDoor.interfereNames
