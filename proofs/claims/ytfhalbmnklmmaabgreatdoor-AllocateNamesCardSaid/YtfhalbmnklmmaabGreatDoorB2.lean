/- What is proved here: out of the row's condition on the package variables follows what they hold. -/
import Derived.Test.YtfhalbmnklmmaabGreatDoorB0
import Derived.LaidLaws
set_option maxRecDepth 100000
namespace Go.Proofs.YtfhalbmnklmmaabGreatDoor.allocateNames
open Go Go.Abs Go.RowKit

theorem shapes_len : shapes.length = 75 := by kernel_rfl
theorem rows_len : shapeRows.length = 25 := by kernel_rfl
theorem digits_len : digits.length = 64 := by kernel_rfl
theorem drows_len : digitRows.length = 64 := by kernel_rfl
def okRow {H : Type} : DataW H → Bool
  | .agg [.lit (.string _), .lit (.int .i64 _), .lit (.int .i64 _)] => true
  | _ => false
theorem rows_ok : shapeRows.all okRow = true := by kernel_rfl
def okDig {H : Type} : DataW H → Bool
  | .lit (.int .u8 _) => true
  | _ => false
theorem digs_ok : digitRows.all okDig = true := by kernel_rfl

theorem underG : Tryz.prog.underlying 285 = some (.array 25 275) := by kernel_rfl
theorem cellsE : Tryz.prog.cellsOf 275 = 3 := by kernel_rfl
theorem cellsG : Tryz.prog.cellsOf 285 = 75 := by kernel_rfl
theorem gnum : Tryz.prog.globalNamed "retarget/term.shapes" = some 1 := by kernel_rfl
theorem gtype : (Tryz.prog.globals[1]?).map (·.type) = some 285 := by kernel_rfl
theorem underD : Tryz.prog.underlying 181 = some (.array 64 5) := by kernel_rfl
theorem under5 : Tryz.prog.underlying 5 = some (.int .u8) := by kernel_rfl
theorem cells5 : Tryz.prog.cellsOf 5 = 1 := by kernel_rfl
theorem cellsD : Tryz.prog.cellsOf 181 = 64 := by kernel_rfl
theorem dnum : Tryz.prog.globalNamed "math/bits.deBruijn64tab" = some 0 := by kernel_rfl
theorem dtype : (Tryz.prog.globals[0]?).map (·.type) = some 181 := by kernel_rfl
noncomputable def fd (i : Nat) : Field := match Tryz.prog.underlying 275 with | some (.struct fs) => fs.getD i default | _ => default
theorem fields : ∃ f0 f1 f2 : Field, Tryz.prog.underlying 275 = some (.struct #[f0, f1, f2]) ∧ f0.offset = 0 ∧ f1.offset = 1 ∧ f2.offset = 2 ∧ Tryz.prog.cellsOf f0.type = 1 ∧ Tryz.prog.cellsOf f1.type = 1 ∧ Tryz.prog.cellsOf f2.type = 1 ∧
    Tryz.prog.underlying f0.type = some .string ∧ Tryz.prog.underlying f1.type = some (.int .i64) ∧ Tryz.prog.underlying f2.type = some (.int .i64) := by
  exact ⟨fd 0, fd 1, fd 2, by kernel_rfl, by kernel_rfl, by kernel_rfl, by kernel_rfl, by kernel_rfl, by kernel_rfl, by kernel_rfl, by kernel_rfl, by kernel_rfl, by kernel_rfl⟩

/-- FROM 'laid' TO THE VARIABLES' CELLS. -/
theorem cells_of_laid {W : World} (h : laidMetH Tryz.prog Rows.allocateNamesRow.laid W) : (∃ cs : Array Value, W.var? Tryz.prog "retarget/term.shapes" = some cs ∧ cs.toList.length = 75 ∧ ∀ i d, shapeRows[i]? = some d → (cs.toList.drop (i * 3)).take 3 = cellsOf2 d) ∧
    ∃ cs : Array Value, W.var? Tryz.prog "math/bits.deBruijn64tab" = some cs ∧ cs.toList.length = 64 ∧ ∀ i d, digitRows[i]? = some d → (cs.toList.drop (i * 1)).take 1 = cellsOf2 d := by
  have h' : laidMet Tryz.prog Rows.allocateNamesRow.laid W := h
  obtain ⟨ps, ⟨g0, t0, cs0, fuel0, p0, q0, hg0, ht0, hvar0, hd0, ⟨g, t, cs, fuel, p, q, hg, ht, hvar, hd, _, _⟩, _⟩, _⟩ := h'
  refine ⟨?_, ?_⟩
  · obtain rfl := Option.some.inj (gnum.symm.trans hg)
    obtain rfl := Option.some.inj (gtype.symm.trans ht)
    obtain ⟨xs, m, _, hx, hlen, hxl, hel⟩ := DataW.trod_array underG hd
    have hx1 : shapeRows = xs.map (·.1) := by
      have := (Prod.mk.inj hx).1
      have e : rowsOf (H := Unit) Rows.laid_retarget_term_shapes = rowsOf (.agg (xs.map (·.1))) := congrArg rowsOf this
      exact e
    refine ⟨cs, hvar, by rw [hlen, cellsG], fun i d hi => ?_⟩
    have hi25 : i < 25 := by
      have := (List.getElem?_eq_some_iff.1 hi).1
      rwa [rows_len] at this
    have he := hel i hi25
    rw [cellsE] at he
    rw [hx1, List.getElem?_map] at hi
    cases hxi : xs[i]? with
    | none => rw [hxi] at hi; cases hi
    | some x =>
      rw [hxi] at hi he
      simp only [Option.map_some, Option.some.injEq] at hi
      have hok : okRow d = true := by
        have hm : d ∈ shapeRows := by rw [hx1]; exact List.mem_map.2 ⟨x, List.mem_of_getElem? hxi, hi⟩
        exact List.all_eq_true.1 rows_ok d hm
      obtain ⟨x1, x2⟩ := x
      simp only at hi
      subst hi
      obtain ⟨f0, f1, f2, k1, k2, k3, k4, k5, k6, k7, k8, k9, k10⟩ := fields
      unfold okRow at hok
      split at hok
      · rename_i bs a b
        rw [elem3 k1 cellsE k2 k3 k4 k5 k6 k7 k8 k9 k10 he]
        simp [cellsOf2, cellsOf1]
      · cases hok
  · obtain rfl := Option.some.inj (dnum.symm.trans hg0)
    obtain rfl := Option.some.inj (dtype.symm.trans ht0)
    obtain ⟨xs, m, _, hx, hlen, hxl, hel⟩ := DataW.trod_array underD hd0
    have hx1 : digitRows = xs.map (·.1) := by
      have := (Prod.mk.inj hx).1
      have e : rowsOf (H := Unit) Rows.laid_math_bits_deBruijn64tab = rowsOf (.agg (xs.map (·.1))) := congrArg rowsOf this
      exact e
    refine ⟨cs0, hvar0, by rw [hlen, cellsD], fun i d hi => ?_⟩
    have hi64 : i < 64 := by
      have := (List.getElem?_eq_some_iff.1 hi).1
      rwa [drows_len] at this
    have he := hel i hi64
    rw [cells5] at he
    rw [hx1, List.getElem?_map] at hi
    cases hxi : xs[i]? with
    | none => rw [hxi] at hi; cases hi
    | some x =>
      rw [hxi] at hi he
      simp only [Option.map_some, Option.some.injEq] at hi
      have hok : okDig d = true := by
        have hm : d ∈ digitRows := by rw [hx1]; exact List.mem_map.2 ⟨x, List.mem_of_getElem? hxi, hi⟩
        exact List.all_eq_true.1 digs_ok d hm
      obtain ⟨x1, x2⟩ := x
      simp only at hi
      subst hi
      unfold okDig at hok
      split at hok
      · rename_i a
        obtain ⟨m1, e1, e1', _⟩ := DataW.trod_int under5 he
        rw [e1]
        simp at e1'
        simp [cellsOf2, cellsOf1, e1']
      · cases hok

theorem chunks {D : Type} {f : D → List Value} {q : Nat} : ∀ {ds : List D} {l : List Value}, l.length = q * ds.length → (∀ i d, ds[i]? = some d → (l.drop (i * q)).take q = f d) → l = ds.flatMap f
  | [], l, hl, _ => by
    have : l.length = 0 := by simpa using hl
    simpa using List.length_eq_zero_iff.1 this
  | d :: ds, l, hl, h => by
    have h0 := h 0 d rfl
    have ih := chunks (f := f) (q := q) (ds := ds) (l := l.drop q) (by simp [Nat.mul_add] at hl ⊢; omega) fun i d' hi => by
      have := h (i + 1) d' (by simpa using hi)
      rw [List.drop_drop, show q + i * q = (i + 1) * q by rw [Nat.add_mul]; omega]; exact this
    rw [List.flatMap_cons, ← ih, ← h0]
    simp

theorem gok {w : World} (hL : laidMetH Tryz.prog Rows.allocateNamesRow.laid w) : GOk E (Ctx.start w) := by
  obtain ⟨⟨cs, hvar, hlen, hseg⟩, ds, dvar, dlen, dseg⟩ := cells_of_laid hL
  have hcs : cs.toList = shapes := chunks (q := 3) (by rw [hlen, rows_len]) hseg
  have hds : ds.toList = digits := chunks (q := 1) (by rw [dlen, drows_len]) dseg
  have one : ∀ (g : Nat) (nm : String) (zs : Array Value) (l : List Value), Tryz.prog.globalNamed nm = some g → w.var? Tryz.prog nm = some zs → zs.toList = l → 0 < l.length → Rel (Ctx.start w) (.iptr (l.map AV.ofConst1) 0) (.pointer (some ⟨g, 0, none⟩)) := by
    intro g nm zs l hn hv hz hl
    have hcell : ∀ j, j < (l.map AV.ofConst1).length → w.cell? ⟨g, 0 + j, none⟩ = some (l.getD j default) := fun j hj => by
      have hj' : j < l.length := by simpa using hj
      have h1 := World.var?_cell hn hv (0 + j)
      rw [Nat.zero_add] at h1 ⊢
      have h2 : zs[j]? = some (l.getD j default) := by
        rw [← Array.getElem?_toList, hz, List.getD_eq_getElem?_getD, List.getElem?_eq_getElem hj', Option.getD_some]
      rw [← h2]; simpa using h1
    have hsz : g < w.heap.size := by
      have h0 := hcell 0 (by simpa using hl)
      refine Classical.byContradiction fun hn => ?_
      have : w.heap[g]? = none := Array.getElem?_eq_none (by omega)
      simp [World.cell?, this] at h0
    refine Rel.iptr (x := Ctx.start w) (l.map AV.ofConst1) 0 g 0 (fun j => l.getD j default) ⟨hsz, hsz⟩ hcell fun j hj => ?_
    have hj' : j < l.length := by simpa using hj
    rw [getD_map _ _ _ default _ hj']
    exact Rel.ofConst1 _ _
  intro g
  match g with
  | 0 => exact one 0 _ ds digits dnum dvar hds (by rw [digits_len]; omega)
  | 1 => exact one 1 _ cs shapes gnum hvar hcs (by rw [shapes_len]; omega)
  | g + 2 => exact .any _

/-- THE HOLE's FILLING, out of the call's contract. -/
theorem walk_of {H' : Heap} {n' : Nat} {c : Code} (hb : Tryz.f3.body = some c) (hc : CallOk E (.fn (.func 3) [] []) [] (fun _ => none) 0 (.bool true) H' n') (w : World) (hL : laidMetH Tryz.prog Rows.allocateNamesRow.laid w) :
    Calls Tryz.prog 3 #[] w fun e w' => e = .returned (.bool true) ∧ Grown w w' :=
  walk_of_call (E := E) Tryz.func3 hb (by kernel_rfl) hc w (gok hL)

end Go.Proofs.YtfhalbmnklmmaabGreatDoor.allocateNames
