/- What is proved here: out of the row's condition on the package variables follows what they hold. -/
import Derived.Test.YtajbdbjkpglgfaaGreatDoorB0
import Derived.LaidLaws
set_option maxRecDepth 100000
namespace Go.Proofs.YtajbdbjkpglgfaaGreatDoor.unwindNames
open Go Go.Abs Go.RowKit

theorem shapes_len : shapes.length = 75 := by kernel_rfl
theorem rows_len : shapeRows.length = 25 := by kernel_rfl
def okRow {H : Type} : DataW H → Bool
  | .agg [.lit (.string _), .lit (.int .i64 _), .lit (.int .i64 _)] => true
  | _ => false
theorem rows_ok : shapeRows.all okRow = true := by kernel_rfl

theorem underG : Tryz.prog.underlying 301 = some (.array 25 294) := by kernel_rfl
theorem cells294 : Tryz.prog.cellsOf 294 = 3 := by kernel_rfl
theorem cells301 : Tryz.prog.cellsOf 301 = 75 := by kernel_rfl
theorem gnum : Tryz.prog.globalNamed "retarget/term.shapes" = some 0 := by kernel_rfl
theorem gtype : (Tryz.prog.globals[0]?).map (·.type) = some 301 := by kernel_rfl
noncomputable def fd (i : Nat) : Field := match Tryz.prog.underlying 294 with | some (.struct fs) => fs.getD i default | _ => default
theorem fields : ∃ f0 f1 f2 : Field, Tryz.prog.underlying 294 = some (.struct #[f0, f1, f2]) ∧ f0.offset = 0 ∧ f1.offset = 1 ∧ f2.offset = 2 ∧ Tryz.prog.cellsOf f0.type = 1 ∧ Tryz.prog.cellsOf f1.type = 1 ∧ Tryz.prog.cellsOf f2.type = 1 ∧
    Tryz.prog.underlying f0.type = some .string ∧ Tryz.prog.underlying f1.type = some (.int .i64) ∧ Tryz.prog.underlying f2.type = some (.int .i64) := by
  exact ⟨fd 0, fd 1, fd 2, by kernel_rfl, by kernel_rfl, by kernel_rfl, by kernel_rfl, by kernel_rfl, by kernel_rfl, by kernel_rfl, by kernel_rfl, by kernel_rfl, by kernel_rfl⟩

/-- FROM 'laid' TO THE VARIABLE's CELLS. -/
theorem cells_of_laid {W : World} (h : laidMetH Tryz.prog Rows.unwindNamesRow.laid W) : ∃ cs : Array Value, W.var? Tryz.prog "retarget/term.shapes" = some cs ∧ cs.toList.length = 75 ∧ ∀ i d, shapeRows[i]? = some d → (cs.toList.drop (i * 3)).take 3 = cellsOf2 d := by
  have h' : laidMet Tryz.prog Rows.unwindNamesRow.laid W := h
  obtain ⟨ps, ⟨g, t, cs, fuel, p, q, hg, ht, hvar, hd, _, _⟩, _⟩ := h'
  obtain rfl := Option.some.inj (gnum.symm.trans hg)
  obtain rfl := Option.some.inj (gtype.symm.trans ht)
  obtain ⟨xs, m, _, hx, hlen, hxl, hel⟩ := DataW.trod_array underG hd
  have hx1 : shapeRows = xs.map (·.1) := by
    have := (Prod.mk.inj hx).1
    have e : rowsOf (H := Unit) Rows.laid_retarget_term_shapes = rowsOf (.agg (xs.map (·.1))) := congrArg rowsOf this
    exact e
  refine ⟨cs, hvar, by rw [hlen, cells301], fun i d hi => ?_⟩
  have hi25 : i < 25 := by
    have := (List.getElem?_eq_some_iff.1 hi).1
    rwa [rows_len] at this
  have he := hel i hi25
  rw [cells294] at he
  rw [hx1, List.getElem?_map] at hi
  cases hxi : xs[i]? with
  | none => rw [hxi] at hi; cases hi
  | some x =>
    rw [hxi] at hi he
    simp only [Option.map_some, Option.some.injEq] at hi
    have hok : okRow d = true := by
      have hm : d ∈ shapeRows := by rw [hx1]; exact List.mem_map.2 ⟨x, List.mem_of_getElem? hxi, hi⟩
      exact List.all_eq_true.1 rows_ok d hm
    obtain ⟨x1, x2⟩ := x
    simp only at hi
    subst hi
    obtain ⟨f0, f1, f2, k1, k2, k3, k4, k5, k6, k7, k8, k9, k10⟩ := fields
    unfold okRow at hok
    split at hok
    · rename_i bs a b
      rw [elem3 k1 cells294 k2 k3 k4 k5 k6 k7 k8 k9 k10 he]
      simp [cellsOf2, cellsOf1]
    · cases hok

theorem chunks {D : Type} {f : D → List Value} : ∀ {ds : List D} {l : List Value}, l.length = 3 * ds.length → (∀ i d, ds[i]? = some d → (l.drop (i * 3)).take 3 = f d) → l = ds.flatMap f
  | [], l, hl, _ => by
    have : l.length = 0 := by simpa using hl
    simpa using List.length_eq_zero_iff.1 this
  | d :: ds, l, hl, h => by
    have h0 := h 0 d rfl
    have ih := chunks (f := f) (ds := ds) (l := l.drop 3) (by simp at hl ⊢; omega) fun i d' hi => by
      have := h (i + 1) d' (by simpa using hi)
      rw [List.drop_drop, show 3 + i * 3 = (i + 1) * 3 by omega]; exact this
    rw [List.flatMap_cons, ← ih, ← h0]
    simp

theorem gok {w : World} (hL : laidMetH Tryz.prog Rows.unwindNamesRow.laid w) : GOk E (Ctx.start w) := by
  obtain ⟨cs, hvar, hlen, hseg⟩ := cells_of_laid hL
  have hcs : cs.toList = shapes := chunks (by rw [hlen, rows_len]) hseg
  intro g
  cases g with
  | succ g => exact .any _
  | zero =>
    have hcell : ∀ j, j < shapesAV.length → w.cell? ⟨0, 0 + j, none⟩ = some (shapes.getD j default) := fun j hj => by
      have hj' : j < shapes.length := by simpa [shapesAV] using hj
      have h1 := World.var?_cell gnum hvar (0 + j)
      rw [Nat.zero_add] at h1 ⊢
      have h2 : cs[j]? = some (shapes.getD j default) := by
        rw [← Array.getElem?_toList, hcs, List.getD_eq_getElem?_getD, List.getElem?_eq_getElem hj', Option.getD_some]
      rw [← h2]; simpa using h1
    have hsz : 0 < w.heap.size := by
      have h0 := hcell 0 (by simp [shapesAV, shapes_len])
      refine Classical.byContradiction fun hn => ?_
      have : w.heap[0]? = none := Array.getElem?_eq_none (by omega)
      simp [World.cell?, this] at h0
    refine Rel.iptr (x := Ctx.start w) shapesAV 0 0 0 (fun j => shapes.getD j default) ⟨hsz, hsz⟩ hcell fun j hj => ?_
    have hj' : j < shapes.length := by simpa [shapesAV] using hj
    rw [show shapesAV = shapes.map AV.ofConst1 from rfl, getD_map _ _ _ default _ hj']
    exact Rel.ofConst1 _ _

/-- THE HOLE's FILLING, out of the call's contract. -/
theorem walk_of {H' : Heap} {n' : Nat} {c : Code} (hb : Tryz.f3.body = some c) (hc : CallOk E (.fn (.func 3) [] []) [] (fun _ => none) 0 (.bool true) H' n') (w : World) (hL : laidMetH Tryz.prog Rows.unwindNamesRow.laid w) :
    Calls Tryz.prog 3 #[] w fun e w' => e = .returned (.bool true) ∧ Grown w w' :=
  walk_of_call (E := E) Tryz.func3 hb (by kernel_rfl) hc w (gok hL)

end Go.Proofs.YtajbdbjkpglgfaaGreatDoor.unwindNames
