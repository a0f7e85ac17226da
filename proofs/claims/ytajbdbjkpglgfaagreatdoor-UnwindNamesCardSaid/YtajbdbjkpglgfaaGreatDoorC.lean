/- What is proved here: each fact is true of the program. -/
import Derived.Test.YtajbdbjkpglgfaaGreatDoorB1
import Derived.Test.YtajbdbjkpglgfaaGreatDoorR0
import Derived.Test.YtajbdbjkpglgfaaGreatDoorR1
import Derived.Test.YtajbdbjkpglgfaaGreatDoorR2
import Derived.Test.YtajbdbjkpglgfaaGreatDoorR3
import Derived.Test.YtajbdbjkpglgfaaGreatDoorR4
import Derived.Test.YtajbdbjkpglgfaaGreatDoorR5
import Derived.Test.YtajbdbjkpglgfaaGreatDoorR6
import Derived.Test.YtajbdbjkpglgfaaGreatDoorR7
set_option maxRecDepth 100000
namespace Go.Proofs.YtajbdbjkpglgfaaGreatDoor.unwindNames
open Go Go.Abs

theorem factOk0 : FactOk E fact0 := fact_ok (fs := []) (fun f hf => by cases hf) (by kernel_rfl) factRun0
theorem factOk1 : FactOk E fact1 := by
  refine fact_ok (fs := [fact0]) (fun f hf => ?_) (by kernel_rfl) factRun1
  simp only [List.mem_cons, List.not_mem_nil, or_false] at hf
  subst hf
  exact factOk0
theorem factOk2 : FactOk E fact2 := by
  refine fact_ok (fs := [fact0, fact1]) (fun f hf => ?_) (by kernel_rfl) factRun2
  simp only [List.mem_cons, List.not_mem_nil, or_false] at hf
  rcases hf with rfl | rfl
  · exact factOk0
  · exact factOk1
theorem factOk3 : FactOk E fact3 := by
  refine fact_ok (fs := [fact0, fact1, fact2]) (fun f hf => ?_) (by kernel_rfl) factRun3
  simp only [List.mem_cons, List.not_mem_nil, or_false] at hf
  rcases hf with rfl | rfl | rfl
  · exact factOk0
  · exact factOk1
  · exact factOk2
theorem factOk4 : FactOk E fact4 := by
  refine fact_ok (fs := [fact0, fact1, fact2, fact3]) (fun f hf => ?_) (by kernel_rfl) factRun4
  simp only [List.mem_cons, List.not_mem_nil, or_false] at hf
  rcases hf with rfl | rfl | rfl | rfl
  · exact factOk0
  · exact factOk1
  · exact factOk2
  · exact factOk3
theorem factOk5 : FactOk E fact5 := by
  refine fact_ok (fs := [fact0, fact1, fact2, fact3, fact4]) (fun f hf => ?_) (by kernel_rfl) factRun5
  simp only [List.mem_cons, List.not_mem_nil, or_false] at hf
  rcases hf with rfl | rfl | rfl | rfl | rfl
  · exact factOk0
  · exact factOk1
  · exact factOk2
  · exact factOk3
  · exact factOk4
theorem factOk6 : FactOk E fact6 := by
  refine fact_ok (fs := [fact0, fact1, fact2, fact3, fact4, fact5]) (fun f hf => ?_) (by kernel_rfl) factRun6
  simp only [List.mem_cons, List.not_mem_nil, or_false] at hf
  rcases hf with rfl | rfl | rfl | rfl | rfl | rfl
  · exact factOk0
  · exact factOk1
  · exact factOk2
  · exact factOk3
  · exact factOk4
  · exact factOk5
theorem factOk7 : FactOk E fact7 := by
  refine fact_ok (fs := [fact0, fact1, fact2, fact3, fact4, fact5, fact6]) (fun f hf => ?_) (by kernel_rfl) factRun7
  simp only [List.mem_cons, List.not_mem_nil, or_false] at hf
  rcases hf with rfl | rfl | rfl | rfl | rfl | rfl | rfl
  · exact factOk0
  · exact factOk1
  · exact factOk2
  · exact factOk3
  · exact factOk4
  · exact factOk5
  · exact factOk6
theorem facts_ok : ∀ f ∈ facts, FactOk E f := by
  intro f hf
  simp only [facts, List.mem_cons, List.not_mem_nil, or_false] at hf
  rcases hf with rfl | rfl | rfl | rfl | rfl | rfl | rfl | rfl
  · exact factOk0
  · exact factOk1
  · exact factOk2
  · exact factOk3
  · exact factOk4
  · exact factOk5
  · exact factOk6
  · exact factOk7
end Go.Proofs.YtajbdbjkpglgfaaGreatDoor.unwindNames
