/- What is proved here: what the package variables hold, the table of the functions, and how one fact is reckoned. -/
import Derived.Test.YtajbdbjkpglgfaaGreatDoorA6
import Derived.RowKit3
import Derived.Test.YtajbdbjkpglgfaaGreatDoorRows
set_option maxRecDepth 100000
namespace Go.Proofs.YtajbdbjkpglgfaaGreatDoor.unwindNames
open Go Go.Abs Go.RowKit

/-! What is written -/
abbrev i (n : Nat) : AV := .int .i64 (.ofNat n)
abbrev j (n : Nat) : AV := .int .i64 (.negSucc n)
abbrev s (l : List UInt8) : AV := .str ⟨⟨l⟩⟩
abbrev T : AV := .bool true
abbrev Fa : AV := .bool false

/-- The cells of a laid datum of plain parts. -/
def cellsOf1 {H : Type} : DataW H → List Value
  | .lit (.string bs) => [.string ⟨bs.toArray⟩]
  | .lit (.int k n) => [.int k n]
  | _ => []
def cellsOf2 {H : Type} : DataW H → List Value
  | .agg qs => qs.flatMap cellsOf1
  | d => cellsOf1 d
def rowsOf {H : Type} : DataW H → List (DataW H)
  | .agg ps => ps
  | _ => []
def shapeRows : List (DataW Unit) := rowsOf Rows.laid_retarget_term_shapes
def shapes : List Value := shapeRows.flatMap cellsOf2
def shapesAV : List AV := shapes.map AV.ofConst1

/-- What the package's variables hold: one is known. -/
def glob : Nat → AV
  | 0 => .iptr shapesAV 0
  | _ + 1 => .any
noncomputable def E : Env := { P := Tryz.prog, G := glob }

noncomputable def tab : Nat → Option RFn := fun id => match Tryz.prog.funcs[id]? with
  | some fn => match fn.body with
    | some c => match allSome (compR Tryz.prog) fn.results.toList with
      | some rs => bif fn.name == "runtime.NumGoroutine" then none else some ⟨comp Tryz.prog fn.ntmps true c, rs⟩
      | none => none
    | none => none
  | none => none

theorem tab_ok : TabOk E tab := by
  intro id rf h
  simp only [tab] at h
  split at h
  · rename_i fn hfn
    split at h
    · rename_i c hc
      split at h
      · rename_i rs hrs
        cases hn : fn.name == "runtime.NumGoroutine" with
        | true => rw [hn] at h; cases h
        | false =>
          rw [hn] at h
          simp only [cond_false, Option.some.injEq] at h
          subst h
          exact ⟨fn, c, hfn, hc, hn, rfl, hrs⟩
      · cases h
    · cases h
  · cases h

theorem mix : E.P.follows .mixedOrders = true := by kernel_rfl
theorem glob_free : ∀ g, (E.G g).free := by
  have one : ∀ l : List Value, ∀ a ∈ l.map AV.ofConst1, a.refsIn (fun _ => False) := fun l a ha => by
    obtain ⟨v, _, rfl⟩ := List.mem_map.1 ha
    cases v <;> simp only [AV.ofConst1] <;> first | trivial | (split <;> trivial) | (simp [AV.refsIn, AV.refsInL]; done)
  intro g
  match g with
  | 0 => simp only [E, glob, AV.free, AV.refsIn, AV.refsInL_iff]; exact one _
  | g + 1 => trivial

/-- One fact is to be reckoned. -/
noncomputable def reckons (fs : List Fact) (f : Fact) : Bool := evFF E.G false E.P tab (orcK fs) 1000000 100 (.fn (.func f.id) [] []) f.args .leaf 0 (fun r H _ _ _ => cmpF false false H Deep r f.r true)
noncomputable def hasBody (id : Nat) : Bool := match Tryz.prog.funcs[id]? with | some fn => fn.body.isSome && !(fn.name == "runtime.NumGoroutine") | none => false
theorem hasBody_ok {id : Nat} (h : hasBody id = true) : HasBody E id := by
  simp only [hasBody] at h
  split at h
  · rename_i fn hfn
    simp only [Bool.and_eq_true, Bool.not_eq_true'] at h
    obtain ⟨c, hc⟩ := Option.isSome_iff_exists.1 h.1
    exact ⟨fn, c, hfn, hc, h.2⟩
  · cases h
theorem fact_ok {fs : List Fact} (hfs : ∀ f ∈ fs, FactOk E f) {f : Fact} (hb : hasBody f.id = true) (h : reckons fs f = true) : FactOk E f :=
  fact_of mix glob_free tab_ok hfs (hasBody_ok hb) h

end Go.Proofs.YtajbdbjkpglgfaaGreatDoor.unwindNames
