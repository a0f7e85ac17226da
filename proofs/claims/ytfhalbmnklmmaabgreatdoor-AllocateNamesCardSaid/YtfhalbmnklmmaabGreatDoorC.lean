/- What is proved here: each fact is true of the program. -/
import Derived.Test.YtfhalbmnklmmaabGreatDoorB1
import Derived.Test.YtfhalbmnklmmaabGreatDoorR0
import Derived.Test.YtfhalbmnklmmaabGreatDoorR1
import Derived.Test.YtfhalbmnklmmaabGreatDoorR2
import Derived.Test.YtfhalbmnklmmaabGreatDoorR3
import Derived.Test.YtfhalbmnklmmaabGreatDoorR4
import Derived.Test.YtfhalbmnklmmaabGreatDoorR5
import Derived.Test.YtfhalbmnklmmaabGreatDoorR6
import Derived.Test.YtfhalbmnklmmaabGreatDoorR7
import Derived.Test.YtfhalbmnklmmaabGreatDoorR8
import Derived.Test.YtfhalbmnklmmaabGreatDoorR9
import Derived.Test.YtfhalbmnklmmaabGreatDoorR10
import Derived.Test.YtfhalbmnklmmaabGreatDoorR11
import Derived.Test.YtfhalbmnklmmaabGreatDoorR12
import Derived.Test.YtfhalbmnklmmaabGreatDoorR13
import Derived.Test.YtfhalbmnklmmaabGreatDoorR14
import Derived.Test.YtfhalbmnklmmaabGreatDoorR15
import Derived.Test.YtfhalbmnklmmaabGreatDoorR16
import Derived.Test.YtfhalbmnklmmaabGreatDoorR17
import Derived.Test.YtfhalbmnklmmaabGreatDoorR18
import Derived.Test.YtfhalbmnklmmaabGreatDoorR19
import Derived.Test.YtfhalbmnklmmaabGreatDoorR20
import Derived.Test.YtfhalbmnklmmaabGreatDoorR21
import Derived.Test.YtfhalbmnklmmaabGreatDoorR22
import Derived.Test.YtfhalbmnklmmaabGreatDoorR23
import Derived.Test.YtfhalbmnklmmaabGreatDoorR24
import Derived.Test.YtfhalbmnklmmaabGreatDoorR25
import Derived.Test.YtfhalbmnklmmaabGreatDoorR26
import Derived.Test.YtfhalbmnklmmaabGreatDoorR27
import Derived.Test.YtfhalbmnklmmaabGreatDoorR28
import Derived.Test.YtfhalbmnklmmaabGreatDoorR29
set_option maxRecDepth 100000
namespace Go.Proofs.YtfhalbmnklmmaabGreatDoor.allocateNames
open Go Go.Abs

theorem factOk0 : FactOk E fact0 := fact_ok (fs := []) (fun f hf => by cases hf) (by kernel_rfl) factRun0
theorem factOk1 : FactOk E fact1 := by
  refine fact_ok (fs := [fact0]) (fun f hf => ?_) (by kernel_rfl) factRun1
  simp only [List.mem_cons, List.not_mem_nil, or_false] at hf
  subst hf
  exact factOk0
theorem factOk2 : FactOk E fact2 := by
  refine fact_ok (fs := [fact0, fact1]) (fun f hf => ?_) (by kernel_rfl) factRun2
  simp only [List.mem_cons, List.not_mem_nil, or_false] at hf
  rcases hf with rfl | rfl
  · exact factOk0
  · exact factOk1
theorem factOk3 : FactOk E fact3 := by
  refine fact_ok (fs := [fact0, fact1, fact2]) (fun f hf => ?_) (by kernel_rfl) factRun3
  simp only [List.mem_cons, List.not_mem_nil, or_false] at hf
  rcases hf with rfl | rfl | rfl
  · exact factOk0
  · exact factOk1
  · exact factOk2
theorem factOk4 : FactOk E fact4 := by
  refine fact_ok (fs := [fact0, fact1]) (fun f hf => ?_) (by kernel_rfl) factRun4
  simp only [List.mem_cons, List.not_mem_nil, or_false] at hf
  rcases hf with rfl | rfl
  · exact factOk0
  · exact factOk1
theorem factOk5 : FactOk E fact5 := by
  refine fact_ok (fs := [fact0, fact1, fact2, fact3, fact4]) (fun f hf => ?_) (by kernel_rfl) factRun5
  simp only [List.mem_cons, List.not_mem_nil, or_false] at hf
  rcases hf with rfl | rfl | rfl | rfl | rfl
  · exact factOk0
  · exact factOk1
  · exact factOk2
  · exact factOk3
  · exact factOk4
theorem factOk6 : FactOk E fact6 := by
  refine fact_ok (fs := [fact0, fact1, fact2, fact3, fact4, fact5]) (fun f hf => ?_) (by kernel_rfl) factRun6
  simp only [List.mem_cons, List.not_mem_nil, or_false] at hf
  rcases hf with rfl | rfl | rfl | rfl | rfl | rfl
  · exact factOk0
  · exact factOk1
  · exact factOk2
  · exact factOk3
  · exact factOk4
  · exact factOk5
theorem factOk7 : FactOk E fact7 := by
  refine fact_ok (fs := [fact0, fact1, fact2, fact3, fact4, fact5, fact6]) (fun f hf => ?_) (by kernel_rfl) factRun7
  simp only [List.mem_cons, List.not_mem_nil, or_false] at hf
  rcases hf with rfl | rfl | rfl | rfl | rfl | rfl | rfl
  · exact factOk0
  · exact factOk1
  · exact factOk2
  · exact factOk3
  · exact factOk4
  · exact factOk5
  · exact factOk6
theorem factOk8 : FactOk E fact8 := by
  refine fact_ok (fs := [fact0, fact1]) (fun f hf => ?_) (by kernel_rfl) factRun8
  simp only [List.mem_cons, List.not_mem_nil, or_false] at hf
  rcases hf with rfl | rfl
  · exact factOk0
  · exact factOk1
theorem factOk9 : FactOk E fact9 := by
  refine fact_ok (fs := [fact0, fact1, fact2, fact3, fact4, fact5, fact6, fact7, fact8]) (fun f hf => ?_) (by kernel_rfl) factRun9
  simp only [List.mem_cons, List.not_mem_nil, or_false] at hf
  rcases hf with rfl | rfl | rfl | rfl | rfl | rfl | rfl | rfl | rfl
  · exact factOk0
  · exact factOk1
  · exact factOk2
  · exact factOk3
  · exact factOk4
  · exact factOk5
  · exact factOk6
  · exact factOk7
  · exact factOk8
theorem factOk10 : FactOk E fact10 := by
  refine fact_ok (fs := [fact0, fact1, fact2, fact3, fact4, fact5, fact6, fact7, fact8, fact9]) (fun f hf => ?_) (by kernel_rfl) factRun10
  simp only [List.mem_cons, List.not_mem_nil, or_false] at hf
  rcases hf with rfl | rfl | rfl | rfl | rfl | rfl | rfl | rfl | rfl | rfl
  · exact factOk0
  · exact factOk1
  · exact factOk2
  · exact factOk3
  · exact factOk4
  · exact factOk5
  · exact factOk6
  · exact factOk7
  · exact factOk8
  · exact factOk9
theorem factOk11 : FactOk E fact11 := by
  refine fact_ok (fs := [fact0, fact1, fact2, fact3, fact4, fact5, fact6, fact7, fact8, fact9, fact10]) (fun f hf => ?_) (by kernel_rfl) factRun11
  simp only [List.mem_cons, List.not_mem_nil, or_false] at hf
  rcases hf with rfl | rfl | rfl | rfl | rfl | rfl | rfl | rfl | rfl | rfl | rfl
  · exact factOk0
  · exact factOk1
  · exact factOk2
  · exact factOk3
  · exact factOk4
  · exact factOk5
  · exact factOk6
  · exact factOk7
  · exact factOk8
  · exact factOk9
  · exact factOk10
theorem factOk12 : FactOk E fact12 := by
  refine fact_ok (fs := [fact0, fact1, fact2, fact3, fact4, fact5, fact6, fact7, fact8, fact9, fact10, fact11]) (fun f hf => ?_) (by kernel_rfl) factRun12
  simp only [List.mem_cons, List.not_mem_nil, or_false] at hf
  rcases hf with rfl | rfl | rfl | rfl | rfl | rfl | rfl | rfl | rfl | rfl | rfl | rfl
  · exact factOk0
  · exact factOk1
  · exact factOk2
  · exact factOk3
  · exact factOk4
  · exact factOk5
  · exact factOk6
  · exact factOk7
  · exact factOk8
  · exact factOk9
  · exact factOk10
  · exact factOk11
theorem factOk13 : FactOk E fact13 := by
  refine fact_ok (fs := [fact0, fact1, fact2, fact3, fact4, fact5, fact6, fact7, fact8, fact9, fact10, fact11, fact12]) (fun f hf => ?_) (by kernel_rfl) factRun13
  simp only [List.mem_cons, List.not_mem_nil, or_false] at hf
  rcases hf with rfl | rfl | rfl | rfl | rfl | rfl | rfl | rfl | rfl | rfl | rfl | rfl | rfl
  · exact factOk0
  · exact factOk1
  · exact factOk2
  · exact factOk3
  · exact factOk4
  · exact factOk5
  · exact factOk6
  · exact factOk7
  · exact factOk8
  · exact factOk9
  · exact factOk10
  · exact factOk11
  · exact factOk12
theorem factOk14 : FactOk E fact14 := by
  refine fact_ok (fs := [fact0, fact1, fact2, fact3, fact4, fact5, fact6, fact7, fact8, fact9, fact10, fact11, fact12, fact13]) (fun f hf => ?_) (by kernel_rfl) factRun14
  simp only [List.mem_cons, List.not_mem_nil, or_false] at hf
  rcases hf with rfl | rfl | rfl | rfl | rfl | rfl | rfl | rfl | rfl | rfl | rfl | rfl | rfl | rfl
  · exact factOk0
  · exact factOk1
  · exact factOk2
  · exact factOk3
  · exact factOk4
  · exact factOk5
  · exact factOk6
  · exact factOk7
  · exact factOk8
  · exact factOk9
  · exact factOk10
  · exact factOk11
  · exact factOk12
  · exact factOk13
theorem factOk15 : FactOk E fact15 := by
  refine fact_ok (fs := [fact0, fact1, fact2, fact3, fact4, fact5, fact6, fact7, fact8, fact9, fact10, fact11, fact12, fact13, fact14]) (fun f hf => ?_) (by kernel_rfl) factRun15
  simp only [List.mem_cons, List.not_mem_nil, or_false] at hf
  rcases hf with rfl | rfl | rfl | rfl | rfl | rfl | rfl | rfl | rfl | rfl | rfl | rfl | rfl | rfl | rfl
  · exact factOk0
  · exact factOk1
  · exact factOk2
  · exact factOk3
  · exact factOk4
  · exact factOk5
  · exact factOk6
  · exact factOk7
  · exact factOk8
  · exact factOk9
  · exact factOk10
  · exact factOk11
  · exact factOk12
  · exact factOk13
  · exact factOk14
theorem factOk16 : FactOk E fact16 := by
  refine fact_ok (fs := [fact0, fact1, fact2, fact3, fact4, fact5, fact6, fact7, fact8, fact9, fact10, fact11, fact12, fact13, fact14, fact15]) (fun f hf => ?_) (by kernel_rfl) factRun16
  simp only [List.mem_cons, List.not_mem_nil, or_false] at hf
  rcases hf with rfl | rfl | rfl | rfl | rfl | rfl | rfl | rfl | rfl | rfl | rfl | rfl | rfl | rfl | rfl | rfl
  · exact factOk0
  · exact factOk1
  · exact factOk2
  · exact factOk3
  · exact factOk4
  · exact factOk5
  · exact factOk6
  · exact factOk7
  · exact factOk8
  · exact factOk9
  · exact factOk10
  · exact factOk11
  · exact factOk12
  · exact factOk13
  · exact factOk14
  · exact factOk15
theorem factOk17 : FactOk E fact17 := by
  refine fact_ok (fs := [fact0, fact1, fact15, fact16]) (fun f hf => ?_) (by kernel_rfl) factRun17
  simp only [List.mem_cons, List.not_mem_nil, or_false] at hf
  rcases hf with rfl | rfl | rfl | rfl
  · exact factOk0
  · exact factOk1
  · exact factOk15
  · exact factOk16
theorem factOk18 : FactOk E fact18 := by
  refine fact_ok (fs := [fact0, fact1, fact2, fact15, fact16, fact17]) (fun f hf => ?_) (by kernel_rfl) factRun18
  simp only [List.mem_cons, List.not_mem_nil, or_false] at hf
  rcases hf with rfl | rfl | rfl | rfl | rfl | rfl
  · exact factOk0
  · exact factOk1
  · exact factOk2
  · exact factOk15
  · exact factOk16
  · exact factOk17
theorem factOk19 : FactOk E fact19 := by
  refine fact_ok (fs := [fact0, fact1, fact15, fact16]) (fun f hf => ?_) (by kernel_rfl) factRun19
  simp only [List.mem_cons, List.not_mem_nil, or_false] at hf
  rcases hf with rfl | rfl | rfl | rfl
  · exact factOk0
  · exact factOk1
  · exact factOk15
  · exact factOk16
theorem factOk20 : FactOk E fact20 := by
  refine fact_ok (fs := [fact0, fact1, fact2, fact15, fact16, fact17, fact19]) (fun f hf => ?_) (by kernel_rfl) factRun20
  simp only [List.mem_cons, List.not_mem_nil, or_false] at hf
  rcases hf with rfl | rfl | rfl | rfl | rfl | rfl | rfl
  · exact factOk0
  · exact factOk1
  · exact factOk2
  · exact factOk15
  · exact factOk16
  · exact factOk17
  · exact factOk19
theorem factOk21 : FactOk E fact21 := by
  refine fact_ok (fs := [fact0, fact1, fact15, fact16]) (fun f hf => ?_) (by kernel_rfl) factRun21
  simp only [List.mem_cons, List.not_mem_nil, or_false] at hf
  rcases hf with rfl | rfl | rfl | rfl
  · exact factOk0
  · exact factOk1
  · exact factOk15
  · exact factOk16
theorem factOk22 : FactOk E fact22 := by
  refine fact_ok (fs := [fact0, fact1, fact2, fact3, fact4, fact8, fact15, fact16, fact17, fact18, fact19, fact20, fact21]) (fun f hf => ?_) (by kernel_rfl) factRun22
  simp only [List.mem_cons, List.not_mem_nil, or_false] at hf
  rcases hf with rfl | rfl | rfl | rfl | rfl | rfl | rfl | rfl | rfl | rfl | rfl | rfl | rfl
  · exact factOk0
  · exact factOk1
  · exact factOk2
  · exact factOk3
  · exact factOk4
  · exact factOk8
  · exact factOk15
  · exact factOk16
  · exact factOk17
  · exact factOk18
  · exact factOk19
  · exact factOk20
  · exact factOk21
theorem factOk23 : FactOk E fact23 := by
  refine fact_ok (fs := [fact0, fact1, fact2, fact3, fact4, fact5, fact6, fact7, fact8, fact9, fact10, fact11, fact12, fact13, fact14, fact15, fact16, fact17, fact18, fact19, fact20, fact21, fact22]) (fun f hf => ?_) (by kernel_rfl) factRun23
  simp only [List.mem_cons, List.not_mem_nil, or_false] at hf
  rcases hf with rfl | rfl | rfl | rfl | rfl | rfl | rfl | rfl | rfl | rfl | rfl | rfl | rfl | rfl | rfl | rfl | rfl | rfl | rfl | rfl | rfl | rfl | rfl
  · exact factOk0
  · exact factOk1
  · exact factOk2
  · exact factOk3
  · exact factOk4
  · exact factOk5
  · exact factOk6
  · exact factOk7
  · exact factOk8
  · exact factOk9
  · exact factOk10
  · exact factOk11
  · exact factOk12
  · exact factOk13
  · exact factOk14
  · exact factOk15
  · exact factOk16
  · exact factOk17
  · exact factOk18
  · exact factOk19
  · exact factOk20
  · exact factOk21
  · exact factOk22
theorem factOk24 : FactOk E fact24 := by
  refine fact_ok (fs := [fact0, fact1, fact15, fact16]) (fun f hf => ?_) (by kernel_rfl) factRun24
  simp only [List.mem_cons, List.not_mem_nil, or_false] at hf
  rcases hf with rfl | rfl | rfl | rfl
  · exact factOk0
  · exact factOk1
  · exact factOk15
  · exact factOk16
theorem factOk25 : FactOk E fact25 := by
  refine fact_ok (fs := [fact0, fact1, fact2, fact15, fact16, fact17, fact19, fact24]) (fun f hf => ?_) (by kernel_rfl) factRun25
  simp only [List.mem_cons, List.not_mem_nil, or_false] at hf
  rcases hf with rfl | rfl | rfl | rfl | rfl | rfl | rfl | rfl
  · exact factOk0
  · exact factOk1
  · exact factOk2
  · exact factOk15
  · exact factOk16
  · exact factOk17
  · exact factOk19
  · exact factOk24
theorem factOk26 : FactOk E fact26 := by
  refine fact_ok (fs := [fact0, fact1, fact2, fact3, fact4, fact8, fact15, fact16, fact17, fact18, fact19, fact20, fact21, fact24, fact25]) (fun f hf => ?_) (by kernel_rfl) factRun26
  simp only [List.mem_cons, List.not_mem_nil, or_false] at hf
  rcases hf with rfl | rfl | rfl | rfl | rfl | rfl | rfl | rfl | rfl | rfl | rfl | rfl | rfl | rfl | rfl
  · exact factOk0
  · exact factOk1
  · exact factOk2
  · exact factOk3
  · exact factOk4
  · exact factOk8
  · exact factOk15
  · exact factOk16
  · exact factOk17
  · exact factOk18
  · exact factOk19
  · exact factOk20
  · exact factOk21
  · exact factOk24
  · exact factOk25
theorem factOk27 : FactOk E fact27 := by
  refine fact_ok (fs := [fact0, fact1, fact2, fact3, fact4, fact5, fact6, fact7, fact8, fact9, fact10, fact11, fact12, fact13, fact14, fact15, fact16, fact17, fact18, fact19, fact20, fact21, fact22, fact23, fact24, fact25, fact26]) (fun f hf => ?_) (by kernel_rfl) factRun27
  simp only [List.mem_cons, List.not_mem_nil, or_false] at hf
  rcases hf with rfl | rfl | rfl | rfl | rfl | rfl | rfl | rfl | rfl | rfl | rfl | rfl | rfl | rfl | rfl | rfl | rfl | rfl | rfl | rfl | rfl | rfl | rfl | rfl | rfl | rfl | rfl
  · exact factOk0
  · exact factOk1
  · exact factOk2
  · exact factOk3
  · exact factOk4
  · exact factOk5
  · exact factOk6
  · exact factOk7
  · exact factOk8
  · exact factOk9
  · exact factOk10
  · exact factOk11
  · exact factOk12
  · exact factOk13
  · exact factOk14
  · exact factOk15
  · exact factOk16
  · exact factOk17
  · exact factOk18
  · exact factOk19
  · exact factOk20
  · exact factOk21
  · exact factOk22
  · exact factOk23
  · exact factOk24
  · exact factOk25
  · exact factOk26
theorem factOk28 : FactOk E fact28 := by
  refine fact_ok (fs := [fact0, fact1, fact2, fact3, fact4, fact5, fact6, fact7, fact8, fact9, fact10, fact11, fact12, fact13, fact14, fact15, fact16, fact17, fact18, fact19, fact20, fact21, fact22, fact23, fact24, fact25, fact26, fact27]) (fun f hf => ?_) (by kernel_rfl) factRun28
  simp only [List.mem_cons, List.not_mem_nil, or_false] at hf
  rcases hf with rfl | rfl | rfl | rfl | rfl | rfl | rfl | rfl | rfl | rfl | rfl | rfl | rfl | rfl | rfl | rfl | rfl | rfl | rfl | rfl | rfl | rfl | rfl | rfl | rfl | rfl | rfl | rfl
  · exact factOk0
  · exact factOk1
  · exact factOk2
  · exact factOk3
  · exact factOk4
  · exact factOk5
  · exact factOk6
  · exact factOk7
  · exact factOk8
  · exact factOk9
  · exact factOk10
  · exact factOk11
  · exact factOk12
  · exact factOk13
  · exact factOk14
  · exact factOk15
  · exact factOk16
  · exact factOk17
  · exact factOk18
  · exact factOk19
  · exact factOk20
  · exact factOk21
  · exact factOk22
  · exact factOk23
  · exact factOk24
  · exact factOk25
  · exact factOk26
  · exact factOk27
theorem factOk29 : FactOk E fact29 := by
  refine fact_ok (fs := [fact0, fact1, fact2, fact3, fact4, fact5, fact6, fact7, fact8, fact9, fact10, fact11, fact12, fact13, fact14, fact15, fact16, fact17, fact18, fact19, fact20, fact21, fact22, fact23, fact24, fact25, fact26, fact27, fact28]) (fun f hf => ?_) (by kernel_rfl) factRun29
  simp only [List.mem_cons, List.not_mem_nil, or_false] at hf
  rcases hf with rfl | rfl | rfl | rfl | rfl | rfl | rfl | rfl | rfl | rfl | rfl | rfl | rfl | rfl | rfl | rfl | rfl | rfl | rfl | rfl | rfl | rfl | rfl | rfl | rfl | rfl | rfl | rfl | rfl
  · exact factOk0
  · exact factOk1
  · exact factOk2
  · exact factOk3
  · exact factOk4
  · exact factOk5
  · exact factOk6
  · exact factOk7
  · exact factOk8
  · exact factOk9
  · exact factOk10
  · exact factOk11
  · exact factOk12
  · exact factOk13
  · exact factOk14
  · exact factOk15
  · exact factOk16
  · exact factOk17
  · exact factOk18
  · exact factOk19
  · exact factOk20
  · exact factOk21
  · exact factOk22
  · exact factOk23
  · exact factOk24
  · exact factOk25
  · exact factOk26
  · exact factOk27
  · exact factOk28
theorem facts_ok : ∀ f ∈ facts, FactOk E f := by
  intro f hf
  simp only [facts, List.mem_cons, List.not_mem_nil, or_false] at hf
  rcases hf with rfl | rfl | rfl | rfl | rfl | rfl | rfl | rfl | rfl | rfl | rfl | rfl | rfl | rfl | rfl | rfl | rfl | rfl | rfl | rfl | rfl | rfl | rfl | rfl | rfl | rfl | rfl | rfl | rfl | rfl
  · exact factOk0
  · exact factOk1
  · exact factOk2
  · exact factOk3
  · exact factOk4
  · exact factOk5
  · exact factOk6
  · exact factOk7
  · exact factOk8
  · exact factOk9
  · exact factOk10
  · exact factOk11
  · exact factOk12
  · exact factOk13
  · exact factOk14
  · exact factOk15
  · exact factOk16
  · exact factOk17
  · exact factOk18
  · exact factOk19
  · exact factOk20
  · exact factOk21
  · exact factOk22
  · exact factOk23
  · exact factOk24
  · exact factOk25
  · exact factOk26
  · exact factOk27
  · exact factOk28
  · exact factOk29
end Go.Proofs.YtfhalbmnklmmaabGreatDoor.allocateNames
