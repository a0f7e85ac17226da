/- What is proved here: each fact is true of the program. -/
import Derived.Test.YtfhalbmnklmmaaaGreatDoorB1
import Derived.Test.YtfhalbmnklmmaaaGreatDoorR0
import Derived.Test.YtfhalbmnklmmaaaGreatDoorR1
import Derived.Test.YtfhalbmnklmmaaaGreatDoorR2
import Derived.Test.YtfhalbmnklmmaaaGreatDoorR3
import Derived.Test.YtfhalbmnklmmaaaGreatDoorR4
import Derived.Test.YtfhalbmnklmmaaaGreatDoorR5
import Derived.Test.YtfhalbmnklmmaaaGreatDoorR6
import Derived.Test.YtfhalbmnklmmaaaGreatDoorR7
import Derived.Test.YtfhalbmnklmmaaaGreatDoorR8
import Derived.Test.YtfhalbmnklmmaaaGreatDoorR9
import Derived.Test.YtfhalbmnklmmaaaGreatDoorR10
import Derived.Test.YtfhalbmnklmmaaaGreatDoorR11
import Derived.Test.YtfhalbmnklmmaaaGreatDoorR12
set_option maxRecDepth 100000
namespace Go.Proofs.YtfhalbmnklmmaaaGreatDoor.interfereNames
open Go Go.Abs

theorem factOk0 : FactOk E fact0 := fact_ok (fs := []) (fun f hf => by cases hf) (by kernel_rfl) factRun0
theorem factOk1 : FactOk E fact1 := by
  refine fact_ok (fs := [fact0]) (fun f hf => ?_) (by kernel_rfl) factRun1
  simp only [List.mem_cons, List.not_mem_nil, or_false] at hf
  subst hf
  exact factOk0
theorem factOk2 : FactOk E fact2 := by
  refine fact_ok (fs := [fact0, fact1]) (fun f hf => ?_) (by kernel_rfl) factRun2
  simp only [List.mem_cons, List.not_mem_nil, or_false] at hf
  rcases hf with rfl | rfl
  · exact factOk0
  · exact factOk1
theorem factOk3 : FactOk E fact3 := by
  refine fact_ok (fs := [fact0, fact1]) (fun f hf => ?_) (by kernel_rfl) factRun3
  simp only [List.mem_cons, List.not_mem_nil, or_false] at hf
  rcases hf with rfl | rfl
  · exact factOk0
  · exact factOk1
theorem factOk4 : FactOk E fact4 := by
  refine fact_ok (fs := [fact0, fact1]) (fun f hf => ?_) (by kernel_rfl) factRun4
  simp only [List.mem_cons, List.not_mem_nil, or_false] at hf
  rcases hf with rfl | rfl
  · exact factOk0
  · exact factOk1
theorem factOk5 : FactOk E fact5 := by
  refine fact_ok (fs := [fact0, fact1]) (fun f hf => ?_) (by kernel_rfl) factRun5
  simp only [List.mem_cons, List.not_mem_nil, or_false] at hf
  rcases hf with rfl | rfl
  · exact factOk0
  · exact factOk1
theorem factOk6 : FactOk E fact6 := by
  refine fact_ok (fs := [fact0, fact1]) (fun f hf => ?_) (by kernel_rfl) factRun6
  simp only [List.mem_cons, List.not_mem_nil, or_false] at hf
  rcases hf with rfl | rfl
  · exact factOk0
  · exact factOk1
theorem factOk7 : FactOk E fact7 := by
  refine fact_ok (fs := [fact0, fact1]) (fun f hf => ?_) (by kernel_rfl) factRun7
  simp only [List.mem_cons, List.not_mem_nil, or_false] at hf
  rcases hf with rfl | rfl
  · exact factOk0
  · exact factOk1
theorem factOk8 : FactOk E fact8 := by
  refine fact_ok (fs := [fact0, fact1, fact7]) (fun f hf => ?_) (by kernel_rfl) factRun8
  simp only [List.mem_cons, List.not_mem_nil, or_false] at hf
  rcases hf with rfl | rfl | rfl
  · exact factOk0
  · exact factOk1
  · exact factOk7
theorem factOk9 : FactOk E fact9 := by
  refine fact_ok (fs := [fact0, fact1, fact7, fact8]) (fun f hf => ?_) (by kernel_rfl) factRun9
  simp only [List.mem_cons, List.not_mem_nil, or_false] at hf
  rcases hf with rfl | rfl | rfl | rfl
  · exact factOk0
  · exact factOk1
  · exact factOk7
  · exact factOk8
theorem factOk10 : FactOk E fact10 := by
  refine fact_ok (fs := [fact0, fact1, fact7, fact8]) (fun f hf => ?_) (by kernel_rfl) factRun10
  simp only [List.mem_cons, List.not_mem_nil, or_false] at hf
  rcases hf with rfl | rfl | rfl | rfl
  · exact factOk0
  · exact factOk1
  · exact factOk7
  · exact factOk8
theorem factOk11 : FactOk E fact11 := by
  refine fact_ok (fs := [fact0, fact1, fact7, fact8]) (fun f hf => ?_) (by kernel_rfl) factRun11
  simp only [List.mem_cons, List.not_mem_nil, or_false] at hf
  rcases hf with rfl | rfl | rfl | rfl
  · exact factOk0
  · exact factOk1
  · exact factOk7
  · exact factOk8
theorem factOk12 : FactOk E fact12 := by
  refine fact_ok (fs := [fact0, fact1, fact7, fact8]) (fun f hf => ?_) (by kernel_rfl) factRun12
  simp only [List.mem_cons, List.not_mem_nil, or_false] at hf
  rcases hf with rfl | rfl | rfl | rfl
  · exact factOk0
  · exact factOk1
  · exact factOk7
  · exact factOk8
theorem facts_ok : ∀ f ∈ facts, FactOk E f := by
  intro f hf
  simp only [facts, List.mem_cons, List.not_mem_nil, or_false] at hf
  rcases hf with rfl | rfl | rfl | rfl | rfl | rfl | rfl | rfl | rfl | rfl | rfl | rfl | rfl
  · exact factOk0
  · exact factOk1
  · exact factOk2
  · exact factOk3
  · exact factOk4
  · exact factOk5
  · exact factOk6
  · exact factOk7
  · exact factOk8
  · exact factOk9
  · exact factOk10
  · exact factOk11
  · exact factOk12
end Go.Proofs.YtfhalbmnklmmaaaGreatDoor.interfereNames
