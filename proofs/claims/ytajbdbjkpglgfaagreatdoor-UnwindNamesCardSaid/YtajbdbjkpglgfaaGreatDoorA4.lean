/- What is proved here serves the claim's last text: an interpreter of resolved code: one operation, one instruction, one region. It speaks of any program of the model. -/
import Derived.Test.YtajbdbjkpglgfaaGreatDoorA3
set_option linter.unnecessarySimpa false
set_option linter.unusedSectionVars false
set_option linter.unusedSimpArgs false
set_option linter.unusedVariables false
namespace Go.Abs
open Go

/-! ### A store by number, which the kernel can reckon with -/
inductive PT (α : Type) where
  | leaf
  | node (v : Option α) (l r : PT α)
  deriving Inhabited

def PT.get {α : Type} : PT α → Nat → Option α
  | .leaf, _ => none
  | .node v l r, i => match i with
    | 0 => v
    | j + 1 => bif Nat.beq (j % 2) 0 then l.get (j / 2) else r.get (j / 2)

def PT.set {α : Type} : Nat → PT α → Nat → Option α → PT α
  | 0, t, _, _ => t
  | f + 1, .leaf, i, v => match i with
    | 0 => .node v .leaf .leaf
    | j + 1 => bif Nat.beq (j % 2) 0 then .node none (PT.set f .leaf (j / 2) v) .leaf else .node none .leaf (PT.set f .leaf (j / 2) v)
  | f + 1, .node u l r, i, v => match i with
    | 0 => .node v l r
    | j + 1 => bif Nat.beq (j % 2) 0 then .node u (PT.set f l (j / 2) v) r else .node u l (PT.set f r (j / 2) v)

theorem PT.get_set {α : Type} : ∀ (f : Nat) (t : PT α) (i : Nat) (v : Option α) (j : Nat), i < f → (t.set f i v).get j = if j = i then v else t.get j
  | 0, t, i, v, j, h => by omega
  | f + 1, .leaf, 0, v, j, h => by cases j <;> simp [PT.set, PT.get]
  | f + 1, .leaf, i + 1, v, j, h => by
    have ih := PT.get_set f .leaf (i / 2) v
    cases hb : Nat.beq (i % 2) 0 <;> simp only [PT.set, hb, cond_true, cond_false]
    all_goals
      cases j with
      | zero => simp [PT.get]
      | succ j =>
        simp only [PT.get]
        cases hb' : Nat.beq (j % 2) 0 <;> simp only [cond_true, cond_false]
        all_goals simp only [Nat.beq_eq_true_eq, Nat.beq_eq, ← Bool.not_eq_true] at hb hb'
        all_goals first
          | (rw [ih _ (by omega)]; simp only [PT.get]; congr 1; simp only [eq_iff_iff]; constructor <;> intro _ <;> omega)
          | (rw [if_neg (by omega)])
  | f + 1, .node u l r, 0, v, j, h => by cases j <;> simp [PT.set, PT.get]
  | f + 1, .node u l r, i + 1, v, j, h => by
    cases hb : Nat.beq (i % 2) 0 <;> simp only [PT.set, hb, cond_true, cond_false]
    all_goals
      cases j with
      | zero => simp [PT.get]
      | succ j =>
        simp only [PT.get]
        cases hb' : Nat.beq (j % 2) 0 <;> simp only [cond_true, cond_false]
        all_goals simp only [Nat.beq_eq_true_eq, Nat.beq_eq, ← Bool.not_eq_true] at hb hb'
        all_goals first
          | (rw [PT.get_set f _ (i / 2) v _ (by omega)]; congr 1; simp only [eq_iff_iff]; constructor <;> intro _ <;> omega)
          | (rw [if_neg (by omega)])

/-- The same, forced. -/
def PT.setK {α β : Type} : Nat → PT α → Nat → Option α → (PT α → β) → β
  | 0, t, _, _, k => k t
  | f + 1, .leaf, i, v, k => match i with
    | 0 => k (.node v .leaf .leaf)
    | j + 1 => bif Nat.beq (j % 2) 0 then PT.setK f .leaf (j / 2) v (fun l => k (.node none l .leaf)) else PT.setK f .leaf (j / 2) v (fun r => k (.node none .leaf r))
  | f + 1, .node u l r, i, v, k => match i with
    | 0 => k (.node v l r)
    | j + 1 => bif Nat.beq (j % 2) 0 then PT.setK f l (j / 2) v (fun l => k (.node u l r)) else PT.setK f r (j / 2) v (fun r => k (.node u l r))

theorem PT.setK_eq {α β : Type} : ∀ (f : Nat) (t : PT α) (i : Nat) (v : Option α) (k : PT α → β), PT.setK f t i v k = k (PT.set f t i v)
  | 0, t, i, v, k => by simp [PT.setK, PT.set]
  | f + 1, .leaf, 0, v, k => by simp [PT.setK, PT.set]
  | f + 1, .leaf, i + 1, v, k => by cases hb : Nat.beq (i % 2) 0 <;> simp only [PT.setK, PT.set, hb, cond_true, cond_false, PT.setK_eq f]
  | f + 1, .node u l r, 0, v, k => by simp [PT.setK, PT.set]
  | f + 1, .node u l r, i + 1, v, k => by cases hb : Nat.beq (i % 2) 0 <;> simp only [PT.setK, PT.set, hb, cond_true, cond_false, PT.setK_eq f]

def PT.put {α : Type} (t : PT α) (i : Nat) (v : Option α) : PT α := t.set (i + 1) i v
def PT.putK {α β : Type} (t : PT α) (i : Nat) (v : Option α) (k : PT α → β) : β := t.setK (i + 1) i v k
theorem PT.putK_eq {α β : Type} (t : PT α) (i : Nat) (v : Option α) (k : PT α → β) : t.putK i v k = k (t.put i v) := PT.setK_eq ..
theorem PT.get_put {α : Type} (t : PT α) (i j : Nat) (v : Option α) : (t.put i v).get j = if j = i then v else t.get j := PT.get_set _ _ _ _ _ (by omega)

/-! ### Forcing -/
def natK {β : Type} (n : Nat) (k : Nat → β) : β := match n with | 0 => k 0 | m + 1 => k (Nat.succ m)
theorem natK_eq {β : Type} (n : Nat) (k : Nat → β) : natK n k = k n := by cases n <;> rfl
def intK {β : Type} (n : Int) (k : Int → β) : β := match n with | .ofNat m => natK m fun m => k (.ofNat m) | .negSucc m => natK m fun m => k (.negSucc m)
theorem intK_eq {β : Type} (n : Int) (k : Int → β) : intK n k = k n := by cases n <;> simp [intK, natK_eq]
def boolK {β : Type} (b : Bool) (k : Bool → β) : β := match b with | true => k true | false => k false
theorem boolK_eq {β : Type} (b : Bool) (k : Bool → β) : boolK b k = k b := by cases b <;> rfl
def listK {α β : Type} : List α → (List α → β) → β
  | [], k => k []
  | a :: l, k => listK l fun l => k (a :: l)
theorem listK_eq {α β : Type} : ∀ (l : List α) (k : List α → β), listK l k = k l
  | [], k => rfl
  | a :: l, k => by simp only [listK, listK_eq l]

/-- The head of a value, and its numbers. -/
def AV.headK {β : Type} (a : AV) (k : AV → β) : β :=
  match a with
  | .any => k .any
  | .bool b => boolK b fun b => k (.bool b)
  | .int d n => intK n fun n => k (.int d n)
  | .str s => k (.str s)
  | .nilp => k .nilp
  | .ptr b o => natK o fun o => k (.ptr b o)
  | .eptr b i o => natK i fun i => natK o fun o => k (.eptr b i o)
  | .iptr cs o => natK o fun o => k (.iptr cs o)
  | .nils => k .nils
  | .sl sz es => k (.sl sz es)
  | .row b o n => natK o fun o => natK n fun n => k (.row b o n)
  | .nilm => k .nilm
  | .map b => k (.map b)
  | .fn f a b => k (.fn f a b)
  | .nilf => k .nilf
  | .agg cs => k (.agg cs)
  | .tup vs => k (.tup vs)
  | .raw v => k (.raw v)
  | .yld b => k (.yld b)
  | .itr b m => k (.itr b m)
  | .vsl b o n s => k (.vsl b o n s)
theorem AV.headK_eq {β : Type} (a : AV) (k : AV → β) : a.headK k = k a := by cases a <;> simp [AV.headK, natK_eq, intK_eq, boolK_eq]
def headsK {β : Type} : List AV → (List AV → β) → β
  | [], k => k []
  | a :: l, k => a.headK fun a => headsK l fun l => k (a :: l)
theorem headsK_eq {β : Type} : ∀ (l : List AV) (k : List AV → β), headsK l k = k l
  | [], k => rfl
  | a :: l, k => by simp only [headsK, headsK_eq l, AV.headK_eq]
def AV.forceK {β : Type} (a : AV) (k : AV → β) : β :=
  match a with
  | .iptr cs o => headsK cs fun cs => natK o fun o => k (.iptr cs o)
  | .sl sz es => listK es fun es => k (.sl sz es)
  | .fn f a b => headsK a fun a => headsK b fun b => k (.fn f a b)
  | .agg cs => headsK cs fun cs => k (.agg cs)
  | .tup cs => headsK cs fun cs => k (.tup cs)
  | a => a.headK k
theorem AV.forceK_eq {β : Type} (a : AV) (k : AV → β) : a.forceK k = k a := by cases a <;> simp [AV.forceK, AV.headK, natK_eq, intK_eq, boolK_eq, headsK_eq, listK_eq]

def pairsK {β : Type} : List (AV × AV) → (List (AV × AV) → β) → β
  | [], k => k []
  | a :: l, k => pairsK l fun l => k (a :: l)
theorem pairsK_eq {β : Type} : ∀ (l : List (AV × AV)) (k : List (AV × AV) → β), pairsK l k = k l
  | [], k => rfl
  | a :: l, k => by simp only [pairsK, pairsK_eq l]
def AObj.forceK {β : Type} (o : AObj) (k : AObj → β) : β :=
  match o with
  | .var cs => headsK cs fun cs => k (.var cs)
  | .row sz es => listK es fun es => k (.row sz es)
  | .map fl es => boolK fl fun fl => pairsK es fun es => k (.map fl es)
  | .raw o => k (.raw o)
  | .loop ts ps as bd st pend => headsK ts fun ts => k (.loop ts ps as bd st pend)
  | .iter L n => natK L fun L => natK n fun n => k (.iter L n)
theorem AObj.forceK_eq {β : Type} (o : AObj) (k : AObj → β) : o.forceK k = k o := by cases o <;> simp [AObj.forceK, headsK_eq, listK_eq, pairsK_eq, boolK_eq, natK_eq]

/-! ### One operation, reckoned -/
inductive HA where
  | keep
  | put (b : Nat) (o : AObj)
  | new (o : AObj)
  | app (k : Option Nat) (o : AObj)

def HA.heap (H : Heap) (n : Nat) : HA → Heap
  | .keep => H
  | .put b o => H.upd b o
  | .new o => H.upd n o
  | .app k o => (H.delO k).upd n o
def HA.next (n : Nat) : HA → Nat
  | .keep | .put .. => n
  | .new _ | .app .. => n + 1

def strEq (x y : ByteArray) : Bool := decide (x = y)

def binOkB (d : TypeDesc) : BinOp → AV → AV → Bool
  | .shl, .int _ _, .int _ b => decide (0 ≤ b)
  | .shr, .int _ _, .int _ b => decide (0 ≤ b)
  | .quo, .int k _, .int k' b => decide (k = k') && decide (b ≠ 0)
  | .rem, .int k _, .int k' b => decide (k = k') && decide (b ≠ 0)
  | _, .int k _, .int k' _ => decide (k = k')
  | .add, .str s, .str u => decide (s.size + u.size ≤ 9223372036854775807)
  | .eql, .str _, .str _ => true
  | .neq, .str _, .str _ => true
  | .lss, .str _, .str _ => true
  | .leq, .str _, .str _ => true
  | .gtr, .str _, .str _ => true
  | .geq, .str _, .str _ => true
  | .eql, .bool _, .bool _ => match d with | .bool => true | _ => false
  | .neq, .bool _, .bool _ => match d with | .bool => true | _ => false
  | _, _, _ => false

theorem binOkB_ok {d : TypeDesc} {op : BinOp} {a b : AV} (h : binOkB d op a b = true) : binOk d op a b := by
  unfold binOkB at h
  unfold binOk
  split at h <;> (try split at h) <;> simp_all

def unOkB : UnOp → AV → Bool
  | .neg, .int _ _ => true
  | .xor, .int _ _ => true
  | .not, .bool _ => true
  | _, _ => false
theorem unOkB_ok {op : UnOp} {a : AV} (h : unOkB op a = true) : unOk op a := by
  unfold unOkB at h
  unfold unOk
  split at h <;> simp_all

def livesB (H : Nat → Option AObj) : AV → Bool
  | .ptr b _ => match H b with | some (.var _) => true | _ => false
  | .eptr b _ _ => match H b with | some (.row _ _) => true | _ => false
  | .iptr _ _ => true
  | _ => false
theorem livesB_ok {H : Heap} {a : AV} (h : livesB H a = true) : a.lives H := by
  unfold livesB at h
  split at h
  · split at h
    · rename_i hb; exact .ptr hb
    · cases h
  · split at h
    · rename_i hb; exact .eptr hb
    · cases h
  · exact .iptr
  · cases h

def behindB (H : Nat → Option AObj) : AV → Option (List AV × Nat)
  | .ptr b off => match H b with | some (.var cs) => some (cs, off) | _ => none
  | .eptr b i off => match H b with | some (.row _ es) => some ((es.getD i .any).cells, off) | _ => none
  | .iptr cs off => some (cs, off)
  | _ => none
theorem behindB_ok {H : Heap} {a : AV} {cs : List AV} {off : Nat} (h : behindB H a = some (cs, off)) : Behind H a cs off := by
  unfold behindB at h
  split at h
  · split at h
    · rename_i hb; cases h; exact .var hb
    · cases h
  · split at h
    · rename_i hb; cases h; exact .row hb
    · cases h
  · cases h; exact .imm
  · cases h

def natOf : AV → Option Nat
  | .int _ (.ofNat n) => some n
  | _ => none
theorem natOf_ok {a : AV} {n : Nat} (h : natOf a = some n) : ∃ k, a = .int k (n : Int) := by
  unfold natOf at h
  split at h
  · cases h; exact ⟨_, rfl⟩
  · cases h

def contB (H : Nat → Option AObj) (sz : Nat) : AV → Option (List AV)
  | .sl sz' es => if sz' = sz then some es else none
  | .row b off n => match H b with | some (.row sz' es) => if sz' = sz ∧ off + n ≤ es.length then some (seg es off n) else none | _ => none
  | .nils => some []
  | _ => none
theorem contB_ok {H : Heap} {sz : Nat} {a : AV} {es : List AV} (h : contB H sz a = some es) : Content H a sz es := by
  unfold contB at h
  split at h
  · split at h
    · rename_i e; subst e; cases h; exact .sl
    · cases h
  · split at h
    · rename_i hb
      split at h
      · rename_i e; obtain ⟨rfl, hl⟩ := e; cases h; exact .row hb hl
      · cases h
    · cases h
  · cases h; exact .nils
  · cases h

def baseB (H : Nat → Option AObj) (sz : Nat) : AV → Option (List AV × Option Nat)
  | .row b off n => match H b with | some (.row sz' es) => if sz' = sz ∧ off + n ≤ es.length then some (seg es off n, some b) else none | _ => none
  | .nils => some ([], none)
  | _ => none
theorem baseB_ok {H : Heap} {sz : Nat} {a : AV} {es : List AV} {k : Option Nat} (h : baseB H sz a = some (es, k)) : Base H a sz es k := by
  unfold baseB at h
  split at h
  · split at h
    · rename_i hb
      split at h
      · rename_i e; obtain ⟨rfl, hl⟩ := e; cases h; exact .row hb hl
      · cases h
    · cases h
  · cases h; exact .nils
  · cases h

def idxB (H : Nat → Option AObj) (sz : Nat) (a : AV) (i : Nat) : Bool :=
  match a with
  | .sl sz' es => sz' == sz && Nat.blt i es.length
  | .row b off n => match H b with | some (.row sz' es) => sz' == sz && Nat.blt i n | _ => false
  | _ => false
theorem idxB_ok {H : Heap} {sz : Nat} {a : AV} {i : Nat} (h : idxB H sz a i = true) : IdxOk H sz a i := by
  unfold idxB at h
  split at h
  · simp only [Bool.and_eq_true, beq_iff_eq, Nat.blt_eq] at h; obtain ⟨rfl, h⟩ := h; exact .sl h
  · split at h
    · rename_i hb; simp only [Bool.and_eq_true, beq_iff_eq, Nat.blt_eq] at h; obtain ⟨rfl, h⟩ := h; exact .row hb h
    · cases h
  · cases h

def cutB (H : Nat → Option AObj) (sz : Nat) (a : AV) (l h : Nat) : Bool :=
  match a with
  | .sl sz' es => sz' == sz && Nat.ble l h && Nat.ble h es.length
  | .row b off n => match H b with | some (.row sz' es) => sz' == sz && Nat.ble l h && Nat.ble (off + h) es.length | _ => false
  | .nils => Nat.beq l 0 && Nat.beq h 0
  | _ => false
theorem cutB_ok {H : Heap} {sz : Nat} {a : AV} {l h : Nat} (hh : cutB H sz a l h = true) : CutOk H sz a l h := by
  unfold cutB at hh
  split at hh
  · simp only [Bool.and_eq_true, beq_iff_eq, Nat.ble_eq] at hh; obtain ⟨⟨rfl, h1⟩, h2⟩ := hh; exact .sl h1 h2
  · split at hh
    · rename_i hb; simp only [Bool.and_eq_true, beq_iff_eq, Nat.ble_eq] at hh; obtain ⟨⟨rfl, h1⟩, h2⟩ := hh; exact .row hb h1 h2
    · cases hh
  · simp only [Bool.and_eq_true, Nat.beq_eq] at hh; obtain ⟨rfl, rfl⟩ := hh; exact .nils
  · cases hh

def boundB (ρ : Operand → AV) (d : Nat) : Option Operand → Option Nat
  | none => some d
  | some o => natOf (ρ o)
theorem boundB_ok {ρ : Operand → AV} {d l : Nat} {lo : Option Operand} (h : boundB ρ d lo = some l) : lo = none ∧ l = d ∨ ∃ o k, lo = some o ∧ ρ o = .int k (l : Int) := by
  cases lo with
  | none => cases h; exact .inl ⟨rfl, rfl⟩
  | some o => obtain ⟨k, hk⟩ := natOf_ok h; exact .inr ⟨o, k, rfl, hk⟩

def mapB (H : Nat → Option AObj) : AV → Option (List (AV × AV))
  | .map b => match H b with | some (.map _ es) => some es | _ => none
  | .nilm => some []
  | _ => none
theorem mapB_ok {H : Heap} {a : AV} {es : List (AV × AV)} (h : mapB H a = some es) : MapAt H a es := by
  unfold mapB at h
  split at h
  · split at h
    · rename_i hb; cases h; exact .map hb
    · cases h
  · cases h; exact .nil
  · cases h

def keysB (k : AV) (es : List (AV × AV)) : Bool := es.all fun e => (keyEq k e.1).isSome

def fitB (v : AV) (n : Nat) : Bool := v.flat && Nat.beq v.cells.length n

end Go.Abs

namespace Go.Abs
open Go

/-- One operation (no call), reckoned: what it gives, and what it does to the heap. -/
def evOp (ρ : Operand → AV) (H : Nat → Option AObj) (n : Nat) : ROp → Option (AV × HA)
  | .mov x => some (ρ x, .keep)
  | .pick c a b => match ρ c with | .bool t => some (bif t then ρ a else ρ b, .keep) | _ => none
  | .zero v => some (.ptr n 0, .new (.var v.cells))
  | .box x => bif (ρ x).flat then some (.ptr n 0, .new (.var (ρ x).cells)) else none
  | .build zs ps => bif ps.all (fun q => fitB (ρ q.2.2) q.2.1) then some (.agg (fillAV zs (ps.map fun q => (q.1, (ρ q.2.2).cells))), .keep) else none
  | .bslice sz xs => bif xs.all (fun o => fitB (ρ o) sz) then some (.row n 0 xs.length, .new (.row sz (xs.map ρ))) else none
  | .load agg m p => match behindB H (ρ p) with
    | some (cs, off) => bif Nat.ble (off + m) cs.length then some (ld agg (seg cs off m), .keep) else none
    | none => none
  | .store m p v => bif fitB (ρ v) m then
      match ρ p with
      | .ptr b off => match H b with
        | some (.var cs) => bif Nat.ble (off + m) cs.length then some (.any, .put b (.var (lay cs off (ρ v).cells))) else none
        | _ => none
      | .eptr b k off => match H b with
        | some (.row sz es) => bif Nat.ble (off + m) sz then some (.any, .put b (.row sz (es.set k ((es.getD k .any).lay off (ρ v).cells)))) else none
        | _ => none
      | _ => none
    else none
  | .nilc x => match ρ x with
    | .fn (.func f) a b => some (.fn (.func f) a b, .keep)
    | y => bif livesB H y then some (y, .keep) else none
  | .bin d op x y => bif binOkB d op (ρ x) (ρ y) then some (binV op (ρ x) (ρ y), .keep) else none
  | .un op x => bif unOkB op (ρ x) then some (unV op (ρ x), .keep) else none
  | .convI k x => match ρ x with | .int _ m => some (.int k (k.wrap m), .keep) | _ => none
  | .convS x => match ρ x with | .str s => some (.str s, .keep) | _ => none
  | .capN x => match ρ x with | .nils => some (.int .i64 0, .keep) | _ => none
  | .isnil x => match ρ x with
    | .nils => some (.bool true, .keep)
    | .sl _ es => bif Nat.blt 0 es.length then some (.bool false, .keep) else none
    | .row b off _ => match H b with | some (.row _ es) => bif Nat.blt off es.length then some (.bool false, .keep) else none | _ => none
    | _ => none
  | .eqA neg c x y => match ρ x, ρ y with
    | .agg cs, .agg ds => match numsEq cs ds with
      | some q => bif Nat.beq cs.length c then some (.bool (if neg = true then !q else q), .keep) else none
      | none => none
    | _, _ => none
  | .convB x => match contB H 1 (ρ x) with
    | some es => bif es.all isByte then some (.str (bytesOf es), .keep) else none
    | none => none
  | .mkfn f first cap => some (.fn f (first.map ρ) (cap.map ρ), .keep)
  | .mkmap => some (.map n, .new (.map true []))
  | .mksl sz bytes z l c => match natOf (ρ l), natOf (ρ c) with
    | some a, some m => bif Nat.ble a m && Nat.ble (m * bytes) 140737488355328 && Nat.ble m 140737488355328 then some (.row n 0 a, .new (.row sz (List.replicate m z))) else none
    | _, _ => none
  | .cut sz x lo hi => match boundB ρ 0 lo, boundB ρ (ρ x).slen hi with
    | some l, some h => bif cutB H sz (ρ x) l h then some (cutAV l h (ρ x), .keep) else none
    | _, _ => none
  | .cutS x lo hi => match ρ x with
    | .str s => match boundB ρ 0 lo, boundB ρ s.size hi with
      | some l, some h => bif Nat.ble l h && Nat.ble h s.size then some (.str (s.extract l h), .keep) else none
      | _, _ => none
    | _ => none
  | .faddr off x => bif livesB H (ρ x) then some ((ρ x).addOff off, .keep) else none
  | .fld agg off m x => match ρ x with
    | .agg cs => bif Nat.ble (off + m) cs.length then some (ld agg (seg cs off m), .keep) else none
    | _ => none
  | .iaddr sz x i => match natOf (ρ i) with
    | some j => bif idxB H sz (ρ x) j then some (idxAV H j (ρ x), .keep) else none
    | none => none
  | .iaddrA len sz x i => match natOf (ρ i) with
    | some j => bif livesB H (ρ x) && Nat.blt j len then some ((ρ x).addOff (j * sz), .keep) else none
    | none => none
  | .idx agg len sz x i => match natOf (ρ i), ρ x with
    | some j, .agg cs => bif Nat.blt j len && Nat.ble (j * sz + sz) cs.length then some (ld agg (seg cs (j * sz) sz), .keep) else none
    | _, _ => none
  | .idxS x i => match natOf (ρ i), ρ x with
    | some j, .str s => bif Nat.blt j s.size then some (.int .u8 ((s.data.toList.getD j 0).toNat : Int), .keep) else none
    | _, _ => none
  | .look d z ok m k => match mapB H (ρ m) with
    | some es => bif keyFits d (ρ k) && keysB (ρ k) es then some (lookV ok z (mget (ρ k) es), .keep) else none
    | none => none
  | .mapup d m k v => match ρ m with
    | .map b => match H b with
      | some (.map fl es) => bif keyFits d (ρ k) && keysB (ρ k) es then some (.any, .put b (.map fl (mput (ρ k) (ρ v) es))) else none
      | _ => none
    | _ => none
  | .ext x i => match ρ x with | .tup vs => bif Nat.blt i vs.length then some (vs.getD i .any, .keep) else none | _ => none
  | .len x => match ρ x with
    | .sl _ es => some (.int .i64 es.length, .keep)
    | .row b _ m => match H b with | some (.row _ _) => some (.int .i64 m, .keep) | _ => none
    | .nils => some (.int .i64 0, .keep)
    | _ => none
  | .lenS x => match ρ x with | .str s => some (.int .i64 s.size, .keep) | _ => none
  | .lenM m => match mapB H (ρ m) with | some es => some (.int .i64 es.length, .keep) | none => none
  | .app sz bytes s x => match baseB H sz (ρ s), contB H sz (ρ x) with
    | some (ss, k), some xs => bif xs.all AV.flat && Nat.ble ((ss.length + xs.length) * bytes) 140737488355328 && Nat.ble (ss.length + xs.length) 140737488355328 then some (.row n 0 (ss.length + xs.length), .app k (.row sz (ss ++ xs))) else none
    | _, _ => none
  | .appZ sz bytes z s x => match ρ s, natOf (ρ x) with
    | .nils, some m => bif Nat.blt 0 m && Nat.ble (m * bytes) 140737488355328 && Nat.ble m 140737488355328 then some (.row n 0 m, .new (.row sz (List.replicate m z))) else none
    | _, _ => none
  | .min2 x y => match ρ x, ρ y with | .int k a, .int _ b => some (.int k (if b < a then b else a), .keep) | _, _ => none
  | .max2 x y => match ρ x, ρ y with | .int k a, .int _ b => some (.int k (if b > a then b else a), .keep) | _, _ => none
  | .clr m => match ρ m with
    | .map b => match H b with | some (.map _ _) => some (.tup [], .put b (.map false [])) | _ => none
    | _ => none
  | .mkmapN r => match ρ r with | .int _ _ => some (.map n, .new (.map true [])) | _ => none
  | .del d m k => match ρ m with
    | .map b => match H b with
      | some (.map fl es) => bif keyFits d (ρ k) && keysB (ρ k) es && (mget (ρ k) es).isNone then some (.tup [], .put b (.map fl es)) else none
      | _ => none
    | _ => none
  | .rng m => match ρ m with
    | .map mb => match H mb with
      | some (.map true es) => some (.itr n mb, .new (.iter es.length 0))
      | _ => none
    | _ => none
  | .nxt it => match ρ it with
    | .itr b m => match H b, H m with
      | some (.iter L k), some (.map true es) => bif Nat.beq L es.length then
          (bif Nat.beq k L then some (.tup [.bool false], .keep) else
            (bif Nat.beq es.length (k + 1) then some (.tup [.bool true, (es.getD k (.any, .any)).1, (es.getD k (.any, .any)).2], .put b (.iter L (k + 1))) else none)) else none
      | _, _ => none
    | _ => none
  | .ent it => match ρ it with
    | .itr b m => match H b, H m with
      | some (.iter L k), some (.map true es) => match k with
        | 0 => none
        | j + 1 => bif Nat.beq L es.length && Nat.blt j es.length then some (.tup [(es.getD j (.any, .any)).1, (es.getD j (.any, .any)).2], .keep) else none
      | _, _ => none
    | _ => none
  | .asl m sz x => match ρ x with
    | .ptr b off => match H b with
      | some (.var cs) => bif Nat.ble (off + m * sz) cs.length then some (.vsl b off m sz, .keep) else none
      | _ => none
    | _ => none
  | .cpV sz dv s => match ρ dv, contB H sz (ρ s) with
    | .vsl b off m sz', some es => match H b with
      | some (.var cs) => bif Nat.beq sz' sz && es.all AV.flat && Nat.ble es.length m && Nat.ble (off + (es.flatMap AV.cells).length) cs.length then some (.int .i64 es.length, .put b (.var (lay cs off (es.flatMap AV.cells)))) else none
      | _ => none
    | _, _ => none
  | .call .. => none

theorem bif_some {α : Type} {c : Bool} {a b : α} (h : (bif c then some a else none) = some b) : c = true ∧ a = b := by cases c <;> simp_all

theorem fitB_ok {v : AV} {n : Nat} (h : fitB v n = true) : v.flat = true ∧ v.cells.length = n := by simpa [fitB] using h

theorem evOp_ok {E : Env} {ρ : Operand → AV} {H : Heap} {n : Nat} {rop : ROp} {r : AV} {ha : HA} (hn : H n = none) (h : evOp ρ H n rop = some (r, ha)) : Ls E ρ H rop r (ha.heap H n) := by
  cases rop <;> simp only [evOp] at h
  case mov x => cases h; exact .mov
  case pick c a b =>
    split at h
    · rename_i t ht; cases h; simp only [HA.heap]
      have := Ls.pick (E := E) (H := H) (a := a) (b := b) ht
      cases t <;> exact this
    · cases h
  case zero v => cases h; exact .zero hn
  case box x => obtain ⟨h1, h2⟩ := bif_some h; cases h2; exact .box hn h1
  case build zs ps =>
    obtain ⟨h1, h2⟩ := bif_some h; cases h2
    exact .build fun q hq => fitB_ok (List.all_eq_true.1 h1 q hq)
  case bslice sz xs =>
    obtain ⟨h1, h2⟩ := bif_some h; cases h2
    exact .bslice hn fun o ho => fitB_ok (List.all_eq_true.1 h1 o ho)
  case load agg m p =>
    split at h
    · rename_i cs off hb
      obtain ⟨h1, h2⟩ := bif_some h; cases h2
      exact .load (behindB_ok hb) (by simpa using h1)
    · cases h
  case store m p v =>
    cases hf : fitB (ρ v) m with
    | false => simp [hf] at h
    | true =>
      obtain ⟨f1, f2⟩ := fitB_ok hf
      simp only [hf, cond_true] at h
      split at h
      · rename_i b off hp
        split at h
        · rename_i cs hb
          obtain ⟨h1, h2⟩ := bif_some h; cases h2
          exact .storeV hp hb f1 f2 (by simpa using h1)
        · cases h
      · rename_i b k off hp
        split at h
        · rename_i sz es hb
          obtain ⟨h1, h2⟩ := bif_some h; cases h2
          exact .storeR hp hb f1 f2 (by simpa using h1)
        · cases h
      · cases h
  case nilc x =>
    split at h
    · rename_i f a b hx; cases h
      have := Ls.nilcF (E := E) (H := H) hx
      rw [hx] at this; exact this
    · obtain ⟨h1, h2⟩ := bif_some h; cases h2
      exact .nilcP (livesB_ok h1)
  case bin d op x y => obtain ⟨h1, h2⟩ := bif_some h; cases h2; exact .bin (binOkB_ok h1)
  case un op x => obtain ⟨h1, h2⟩ := bif_some h; cases h2; exact .un (unOkB_ok h1)
  case convI k x =>
    split at h
    · rename_i k' m hx; cases h; exact .convI hx
    · cases h
  case convS x =>
    split at h
    · rename_i s hx; cases h
      have := Ls.convS (E := E) (H := H) hx
      rw [hx] at this; exact this
    · cases h
  case capN x =>
    split at h
    · rename_i hx; cases h; exact .capN hx
    · cases h
  case isnil x =>
    split at h
    · rename_i hx; cases h; exact .isnilN hx
    · rename_i sz es hx
      obtain ⟨h1, h2⟩ := bif_some h; cases h2
      exact .isnilL hx (by simpa using h1)
    · rename_i b off m hx
      split at h
      · rename_i sz es hb
        obtain ⟨h1, h2⟩ := bif_some h; cases h2
        exact .isnilR hx hb (by simpa using h1)
      · cases h
    · cases h
  case eqA neg c x y =>
    split at h
    · rename_i cs ds hx hy
      split at h
      · rename_i q hq
        obtain ⟨h1, h2⟩ := bif_some h; cases h2
        exact .eqA hx hy (Nat.eq_of_beq_eq_true h1) hq
      · cases h
    · cases h
  case convB x =>
    split at h
    · rename_i es hc
      obtain ⟨h1, h2⟩ := bif_some h; cases h2
      exact .convB (contB_ok hc) h1
    · cases h
  case mkfn f first cap => cases h; exact .mkfn
  case mkmap => cases h; exact .mkmap hn
  case mksl sz bytes z l c =>
    split at h
    · rename_i a m ha hm
      obtain ⟨k1, e1⟩ := natOf_ok ha
      obtain ⟨k2, e2⟩ := natOf_ok hm
      obtain ⟨h1, h2⟩ := bif_some h; cases h2
      simp only [Bool.and_eq_true, Nat.ble_eq] at h1
      exact .mksl hn e1 e2 h1.1.1 h1.1.2 h1.2
    · cases h
  case cut sz x lo hi =>
    split at h
    · rename_i l hh hlo hhi
      obtain ⟨h1, h2⟩ := bif_some h; cases h2
      exact .cut (cutB_ok h1) (boundB_ok hlo) (boundB_ok hhi)
    · cases h
  case cutS x lo hi =>
    split at h
    · rename_i s hx
      split at h
      · rename_i l hh hlo hhi
        obtain ⟨h1, h2⟩ := bif_some h; cases h2
        simp only [Bool.and_eq_true, Nat.ble_eq] at h1
        exact .cutS hx h1.1 h1.2 (boundB_ok hlo) (boundB_ok hhi)
      · cases h
    · cases h
  case faddr off x => obtain ⟨h1, h2⟩ := bif_some h; cases h2; exact .faddr (livesB_ok h1)
  case fld agg off m x =>
    split at h
    · rename_i cs hx
      obtain ⟨h1, h2⟩ := bif_some h; cases h2
      exact .fld hx (by simpa using h1)
    · cases h
  case iaddr sz x i =>
    split at h
    · rename_i j hj
      obtain ⟨k, e⟩ := natOf_ok hj
      obtain ⟨h1, h2⟩ := bif_some h; cases h2
      exact .iaddr e (idxB_ok h1)
    · cases h
  case iaddrA len sz x i =>
    split at h
    · rename_i j hj
      obtain ⟨k, e⟩ := natOf_ok hj
      obtain ⟨h1, h2⟩ := bif_some h; cases h2
      simp only [Bool.and_eq_true, Nat.blt_eq] at h1
      exact .iaddrA e (livesB_ok h1.1) h1.2
    · cases h
  case idx agg len sz x i =>
    split at h
    · rename_i j cs hj hx
      obtain ⟨k, e⟩ := natOf_ok hj
      obtain ⟨h1, h2⟩ := bif_some h; cases h2
      simp only [Bool.and_eq_true, Nat.blt_eq, Nat.ble_eq] at h1
      exact .idx e hx h1.1 h1.2
    · cases h
  case idxS x i =>
    split at h
    · rename_i j s hj hx
      obtain ⟨k, e⟩ := natOf_ok hj
      obtain ⟨h1, h2⟩ := bif_some h; cases h2
      exact .idxS e hx (by simpa using h1)
    · cases h
  case look d z ok m k =>
    split at h
    · rename_i es hm
      obtain ⟨h1, h2⟩ := bif_some h; cases h2
      simp only [Bool.and_eq_true, keysB, List.all_eq_true] at h1
      exact .look (mapB_ok hm) h1.1 h1.2
    · cases h
  case mapup d m k v =>
    split at h
    · rename_i b hm
      split at h
      · rename_i fl es hb
        obtain ⟨h1, h2⟩ := bif_some h; cases h2
        simp only [Bool.and_eq_true, keysB, List.all_eq_true] at h1
        exact .mapup hm hb h1.1 h1.2
      · cases h
    · cases h
  case ext x i =>
    split at h
    · rename_i vs hx
      obtain ⟨h1, h2⟩ := bif_some h; cases h2
      exact .ext hx (by simpa using h1)
    · cases h
  case len x =>
    split at h
    · rename_i sz es hx; cases h; exact .lenL hx
    · rename_i b off m hx
      split at h
      · rename_i sz es hb; cases h; exact .lenR hx hb
      · cases h
    · rename_i hx; cases h; exact .lenN hx
    · cases h
  case lenS x =>
    split at h
    · rename_i s hx; cases h; exact .lenS hx
    · cases h
  case lenM m =>
    split at h
    · rename_i es hm; cases h; exact .lenM (mapB_ok hm)
    · cases h
  case app sz bytes s x =>
    split at h
    · rename_i ss k xs hs hx
      obtain ⟨h1, h2⟩ := bif_some h; cases h2
      simp only [Bool.and_eq_true, Nat.ble_eq, List.all_eq_true] at h1
      exact .app hn (baseB_ok hs) (contB_ok hx) h1.1.1 h1.1.2 h1.2
    · cases h
  case appZ sz bytes z s x =>
    split at h
    · rename_i m hs hm
      obtain ⟨k, e⟩ := natOf_ok hm
      obtain ⟨h1, h2⟩ := bif_some h; cases h2
      simp only [Bool.and_eq_true, Nat.blt_eq, Nat.ble_eq] at h1
      exact .appZ hn hs e h1.1.1 h1.1.2 h1.2
    · cases h
  case min2 x y =>
    split at h
    · rename_i k a k' b hx hy; cases h; exact .min2 hx hy
    · cases h
  case max2 x y =>
    split at h
    · rename_i k a k' b hx hy; cases h; exact .max2 hx hy
    · cases h
  case clr m =>
    split at h
    · rename_i b hm
      split at h
      · rename_i fl es hb; cases h; exact .clr hm hb
      · cases h
    · cases h
  case mkmapN r =>
    split at h
    · rename_i k m hr; cases h; exact .mkmapN hn hr
    · cases h
  case del d m k =>
    split at h
    · rename_i b hm
      split at h
      · rename_i fl es hb
        obtain ⟨h1, h2⟩ := bif_some h; cases h2
        simp only [Bool.and_eq_true, keysB, List.all_eq_true, Option.isNone_iff_eq_none] at h1
        exact .del hm hb h1.1.1 h1.1.2 h1.2
      · cases h
    · cases h
  case rng m =>
    split at h
    · rename_i mb hm
      split at h
      · rename_i es hb; cases h; exact .rng hn hm hb
      · cases h
    · cases h
  case nxt it =>
    split at h
    · rename_i b m hi
      split at h
      · rename_i L k es hb hm
        cases hL : Nat.beq L es.length with
        | false => rw [hL] at h; cases h
        | true =>
          obtain rfl := Nat.eq_of_beq_eq_true hL
          rw [hL] at h
          simp only [cond_true] at h
          cases hk : Nat.beq k es.length with
          | true =>
            obtain rfl := Nat.eq_of_beq_eq_true hk
            rw [hk] at h; cases h
            exact .nxtO hi hb hm
          | false =>
            rw [hk] at h
            simp only [cond_false] at h
            obtain ⟨h1, h2⟩ := bif_some h; cases h2
            exact .nxtS hi (Nat.eq_of_beq_eq_true h1) hb hm
      · cases h
    · cases h
  case ent it =>
    split at h
    · rename_i b m hi
      split at h
      · rename_i L k es hb hm
        split at h
        · cases h
        · rename_i j
          obtain ⟨h1, h2⟩ := bif_some h; cases h2
          simp only [Bool.and_eq_true, Nat.blt_eq] at h1
          obtain rfl := Nat.eq_of_beq_eq_true h1.1
          exact .ent hi h1.2 hb hm
      · cases h
    · cases h
  case asl m sz x =>
    split at h
    · rename_i b off hx
      split at h
      · rename_i cs hb
        obtain ⟨h1, h2⟩ := bif_some h; cases h2
        exact .asl hx hb (by simpa using h1)
      · cases h
    · cases h
  case cpV sz dv s =>
    split at h
    · rename_i b off m sz' es hd hs
      split at h
      · rename_i cs hb
        obtain ⟨h1, h2⟩ := bif_some h; cases h2
        simp only [Bool.and_eq_true, Nat.ble_eq, List.all_eq_true] at h1
        obtain rfl := Nat.eq_of_beq_eq_true h1.1.1.1
        exact .cpV hd hb (contB_ok hs) h1.1.1.2 h1.1.2
      · cases h
    · cases h
  case call => cases h

end Go.Abs

namespace Go.Abs
open Go

def ROp.ops : ROp → List Operand
  | .mov x | .box x | .nilc x | .un _ x | .convI _ x | .convS x | .capN x | .convB x | .isnil x | .faddr _ x | .fld _ _ _ x | .ext x _ | .len x | .lenS x | .lenM x | .clr x | .load _ _ x | .mkmapN x | .rng x | .nxt x | .ent x | .asl _ _ x => [x]
  | .pick c a b => [c, a, b]
  | .zero _ | .mkmap => []
  | .build _ ps => ps.map (·.2.2)
  | .bslice _ xs => xs
  | .store _ p v => [p, v]
  | .bin _ _ x y | .eqA _ _ x y | .mksl _ _ _ x y | .iaddr _ x y | .iaddrA _ _ x y | .idx _ _ _ x y | .idxS x y | .look _ _ _ x y | .app _ _ x y | .appZ _ _ _ x y | .min2 x y | .max2 x y | .del _ x y | .cpV _ x y => [x, y]
  | .mkfn _ f c => f ++ c
  | .cut _ x lo hi | .cutS x lo hi => x :: (lo.toList ++ hi.toList)
  | .mapup _ m k v => [m, k, v]
  | .call f args => f :: args

theorem cops_ops {rop : ROp} {o : Operand} (h : o ∈ rop.cops) : o ∈ rop.ops := by cases rop <;> simp_all [ROp.cops, ROp.ops]
theorem lops_ops {rop : ROp} {o : Operand} (h : o ∈ rop.lops) : o ∈ rop.ops := by cases rop <;> simp_all [ROp.lops, ROp.ops]

theorem evOp_congr {ρ ρ' : Operand → AV} {H : Nat → Option AObj} {n : Nat} {rop : ROp} (h : ∀ p ∈ rop.ops, ρ' p = ρ p) : evOp ρ' H n rop = evOp ρ H n rop := by
  have hb : ∀ (d : Nat) (lo : Option Operand), (∀ p ∈ lo.toList, ρ' p = ρ p) → boundB ρ' d lo = boundB ρ d lo := fun d lo h => by
    cases lo with
    | none => rfl
    | some o => simp only [boundB, h o (by simp)]
  cases rop <;> simp only [ROp.ops, List.mem_cons, List.not_mem_nil, or_false, forall_eq_or_imp, forall_eq, List.mem_append, List.mem_map] at h
  case build zs ps =>
    have e1 : (ps.all fun q => fitB (ρ' q.2.2) q.2.1) = ps.all fun q => fitB (ρ q.2.2) q.2.1 := by
      rw [Bool.eq_iff_iff, List.all_eq_true, List.all_eq_true]
      exact ⟨fun hh q hq => by rw [← h _ ⟨q, hq, rfl⟩]; exact hh q hq, fun hh q hq => by rw [h _ ⟨q, hq, rfl⟩]; exact hh q hq⟩
    have e2 : (ps.map fun q => (q.1, (ρ' q.2.2).cells)) = ps.map fun q => (q.1, (ρ q.2.2).cells) := List.map_congr_left fun q hq => by rw [h _ ⟨q, hq, rfl⟩]
    simp only [evOp, e1, e2]
  case bslice sz xs =>
    have e1 : (xs.all fun o => fitB (ρ' o) sz) = xs.all fun o => fitB (ρ o) sz := by
      rw [Bool.eq_iff_iff, List.all_eq_true, List.all_eq_true]
      exact ⟨fun hh q hq => by rw [← h _ hq]; exact hh q hq, fun hh q hq => by rw [h _ hq]; exact hh q hq⟩
    have e2 : xs.map ρ' = xs.map ρ := List.map_congr_left fun q hq => h q hq
    simp only [evOp, e1, e2]
  case mkfn f first cap =>
    have e1 : first.map ρ' = first.map ρ := List.map_congr_left fun q hq => h q (.inl hq)
    have e2 : cap.map ρ' = cap.map ρ := List.map_congr_left fun q hq => h q (.inr hq)
    simp only [evOp, e1, e2]
  case cut sz x lo hi =>
    have e1 := hb 0 lo fun p hp => h.2 p (.inl hp)
    have e2 := hb (ρ x).slen hi fun p hp => h.2 p (.inr hp)
    simp only [evOp, h.1, e1, e2]
  case cutS x lo hi =>
    have e1 := hb 0 lo fun p hp => h.2 p (.inl hp)
    have e2 := fun d => hb d hi fun p hp => h.2 p (.inr hp)
    simp only [evOp, h.1, e1, e2]
  all_goals simp only [evOp, h]

theorem resolveCall_ops {P : Program} {c : Call} {rop : ROp} (h : resolveCall P c = some rop) : ∀ p ∈ rop.ops, p ∈ c.operands := by
  obtain ⟨callee, args, ts⟩ := c
  intro p hp
  have hmem : ∀ l : List Operand, args.toList = l → p ∈ l → p ∈ args := fun l e hp => by rw [← e] at hp; exact Array.mem_def.2 hp
  simp only [resolveCall] at h
  split at h
  · cases h
    simp only [ROp.ops, List.mem_cons] at hp
    simp only [Call.operands, Array.mem_append]
    rcases hp with rfl | hp
    · exact .inl (by simp)
    · exact .inr (Array.mem_def.2 hp)
  all_goals
    try (rename_i hargs)
    simp only [Call.operands, Array.mem_append]
    repeat' (split at h)
    all_goals first | (cases h; done) | skip
    all_goals
      cases h
      exact .inr (hmem _ (by assumption) (by simpa [ROp.ops] using hp))

theorem resolve_ops {P : Program} {op : Op} {rop : ROp} (h : resolveOp P op = some rop) : ∀ p ∈ rop.ops, p ∈ op.operands := by
  intro p hp
  cases op <;> simp only [resolveOp] at h
  case call c => exact resolveCall_ops h p hp
  case build t ps =>
    have hmem : ∀ {fs : Array Field} {m : Nat} {l : List (Nat × Nat × Operand)}, ps.toList.mapM (buildPart P fs m) = some l → p ∈ l.map (·.2.2) → p ∈ ps.toList.map (·.2) := by
      intro fs m l hl hpl
      obtain ⟨q, hq, rfl⟩ := List.mem_map.1 hpl
      obtain ⟨j, hj, rfl⟩ := mem_getD (0, 0, default) hq
      obtain ⟨k1, k2⟩ := mapM_buildPart hl
      obtain ⟨f, i, _, _, _, e⟩ := k2 j (by omega)
      rw [e]
      exact List.mem_map.2 ⟨_, getD_mem (0, default) (show j < ps.toList.length by omega), rfl⟩
    simp only [Op.operands]
    repeat' (split at h)
    all_goals first | (cases h; done) | skip
    · simp only [Option.map_eq_some_iff] at h
      obtain ⟨l, hl, rfl⟩ := h
      simpa using hmem hl (by simpa [ROp.ops] using hp)
    · cases h
      simp only [ROp.ops, List.map_map] at hp
      simpa [Function.comp_def] using hp
  case buildSlice t len ps =>
    simp only [Op.operands]
    repeat' (split at h)
    all_goals first | (cases h; done) | skip
    cases h
    simpa [ROp.ops] using hp
  case makeMap t r =>
    cases r with
    | none => simp only [Option.some.injEq] at h; subst h; simp [ROp.ops] at hp
    | some q =>
      simp only at h
      split at h
      · cases h
        first | (simp [ROp.ops] at hp; done) | (simp only [ROp.ops, List.mem_singleton] at hp; subst hp; simp [Op.operands])
      · cases h
  case slice t x lo hi mx =>
    cases mx with
    | some q => simp at h
    | none =>
      simp only at h
      simp only [Op.operands]
      repeat' (split at h)
      all_goals first | (cases h; done) | skip
      all_goals
        cases h
        first
          | (simp only [ROp.ops, List.mem_singleton] at hp; subst hp; simp; done)
          | (simp only [ROp.ops, List.mem_cons, List.mem_append] at hp
             rcases hp with rfl | hp | hp
             · simp
             · cases lo <;> simp_all
             · cases hi <;> simp_all)
  all_goals
    repeat' (split at h)
    all_goals first | (cases h; done) | skip
    all_goals
      cases h
      first
        | (simpa [ROp.ops, Op.operands] using hp; done)
        | (simp only [ROp.ops, List.mem_singleton] at hp; subst hp; simp [Op.operands])

end Go.Abs

namespace Go.Abs
open Go

structure RI where
  dst : Option Nat
  op : Option ROp
  guard : Option (Nat × Bool)
  deriving Inhabited

structure Mc where
  T : PT AV
  H : PT AObj
  n : Nat
  w0 : Nat
  ws : List Nat
  ks : List Nat
  deriving Inhabited

def Mc.t (s : Mc) : Nat → AV := fun t => (s.T.get t).getD .any
def Mc.h (s : Mc) : Heap := s.H.get

def rho (G : Nat → AV) (T : PT AV) : Operand → AV
  | .tmp t => match T.get t with | some v => v | none => .any
  | .const v => AV.ofConst v
  | .global g => G g
  | .func f => .fn (.func f) [] []

theorem rho_eq (G : Nat → AV) (s : Mc) : rho G s.T = aevalF G s.t := by
  funext o
  cases o with
  | tmp t => simp only [rho, aevalF, Mc.t]; cases s.T.get t <;> rfl
  | _ => rfl

/-- What an operation touched. -/
structure FP where
  call : Bool
  cl : List Nat
  ll : List Nat
  wl : List Nat
  kl : List Nat
  n0 : Nat
  n1 : Nat
  deriving Inhabited

def FP.C (p : FP) (b : Nat) : Prop := p.call = true ∨ b ∈ p.cl
def FP.L (p : FP) (b : Nat) : Prop := p.call = true ∨ b ∈ p.ll
def FP.W (p : FP) (b : Nat) : Prop := b ∈ p.wl
def FP.K (p : FP) (b : Nat) : Prop := b ∈ p.kl

def AV.refL : AV → List Nat
  | .ptr b _ | .eptr b _ _ | .row b _ _ | .map b | .vsl b _ _ _ => [b]
  | .itr b m => [b, m]
  | _ => []
theorem AV.refL_ok {a : AV} {b : Nat} (h : a.isRef b) : b ∈ a.refL := by
  cases a <;> simp_all [AV.isRef, AV.refL]
  all_goals (rcases h with rfl | rfl <;> simp)

def mayW : ROp → Bool
  | .store .. | .mapup .. | .app .. | .clr .. | .del .. | .nxt .. | .cpV .. | .call .. => true
  | _ => false

def HA.heapT (H : PT AObj) (n : Nat) : HA → PT AObj
  | .keep => H
  | .put b o => H.put b (some o)
  | .new o => H.put n (some o)
  | .app (some k) o => (H.put k none).put n (some o)
  | .app none o => H.put n (some o)
def HA.heapK {β : Type} (H : PT AObj) (n : Nat) (ha : HA) (k : PT AObj → β) : β :=
  match ha with
  | .keep => k H
  | .put b o => o.forceK fun o => H.putK b (some o) k
  | .new o => o.forceK fun o => H.putK n (some o) k
  | .app (some b) o => o.forceK fun o => H.putK b none fun H => H.putK n (some o) k
  | .app none o => o.forceK fun o => H.putK n (some o) k
theorem HA.heapK_eq {β : Type} (H : PT AObj) (n : Nat) (ha : HA) (k : PT AObj → β) : ha.heapK H n k = k (ha.heapT H n) := by
  cases ha with
  | app b o => cases b <;> simp [HA.heapK, HA.heapT, AObj.forceK_eq, PT.putK_eq]
  | _ => simp [HA.heapK, HA.heapT, AObj.forceK_eq, PT.putK_eq]
theorem HA.heapT_get (H : PT AObj) (n : Nat) (ha : HA) : (ha.heapT H n).get = ha.heap H.get n := by
  funext i
  cases ha with
  | keep => rfl
  | put b o => simp only [HA.heapT, PT.get_put, HA.heap, Heap.upd]
  | new o => simp only [HA.heapT, PT.get_put, HA.heap, Heap.upd]
  | app b o => cases b <;> simp only [HA.heapT, PT.get_put, HA.heap, Heap.upd, Heap.delO, Heap.del]

def HA.wl : HA → List Nat
  | .put b _ => [b]
  | .app (some b) _ => [b]
  | _ => []
def HA.kl : HA → List Nat
  | .app (some b) _ => [b]
  | _ => []
def memB (b : Nat) : List Nat → Bool
  | [] => false
  | a :: l => Nat.beq a b || memB b l
def insW (w0 : Nat) : List Nat → List Nat → List Nat
  | [], ws => ws
  | b :: xs, ws => insW w0 xs (bif Nat.blt b w0 && !memB b ws then b :: ws else ws)
theorem memB_iff {b : Nat} : ∀ {l : List Nat}, memB b l = true ↔ b ∈ l
  | [] => by simp [memB]
  | a :: l => by simp only [memB, Bool.or_eq_true, memB_iff (l := l), List.mem_cons]; exact or_congr_left ⟨fun h => (Nat.eq_of_beq_eq_true h).symm, fun h => by subst h; exact Nat.beq_refl b⟩
theorem insW_old {w0 b : Nat} : ∀ {xs ws : List Nat}, b ∈ ws → b ∈ insW w0 xs ws
  | [], ws, h => h
  | a :: xs, ws, h => by
    refine insW_old (xs := xs) ?_
    cases Nat.blt a w0 && !memB a ws <;> simp [h]
theorem insW_new {w0 b : Nat} : ∀ {xs ws : List Nat}, b ∈ xs → b < w0 → b ∈ insW w0 xs ws
  | [], ws, h, _ => by cases h
  | a :: xs, ws, h, hb => by
    simp only [insW]
    rcases List.mem_cons.1 h with rfl | h
    · refine insW_old ?_
      have : Nat.blt b w0 = true := by simpa using hb
      cases hm : memB b ws with
      | true => simp [this, memB_iff.1 hm]
      | false => simp [this]
    · exact insW_new h hb

def dstK {β : Type} (T : PT AV) (d : Option Nat) (v : AV) (k : PT AV → β) : β :=
  match d with
  | none => k T
  | some d => v.forceK fun v => T.putK d (some v) k
def dstT (T : PT AV) (d : Option Nat) (v : AV) : PT AV := match d with | none => T | some d => T.put d (some v)
theorem dstK_eq {β : Type} (T : PT AV) (d : Option Nat) (v : AV) (k : PT AV → β) : dstK T d v k = k (dstT T d v) := by cases d <;> simp [dstK, dstT, AV.forceK_eq, PT.putK_eq]
theorem dstT_get (T : PT AV) (d : Option Nat) (v : AV) : (fun t => ((dstT T d v).get t).getD .any) = putF (fun t => (T.get t).getD .any) d v := by
  funext t
  cases d with
  | none => rfl
  | some d => simp only [dstT, PT.get_put, putF]; split <;> rfl

abbrev CallF := AV → List AV → PT AObj → Nat → Option (AV × PT AObj × Nat × List Nat × List Nat)

def evX (G : Nat → AV) (call : CallF) (d : Option Nat) (op : ROp) (s : Mc) : Option (Mc × AV × Bool × FP) :=
  match op with
  | .call f args => match call (rho G s.T f) (args.map (rho G s.T)) s.H s.n with
    | some (r, H, n, ws, ks) => dstK s.T d r fun T => natK n fun n => listK (insW s.w0 ws s.ws) fun w => listK (insW s.w0 ks s.ks) fun k => some (⟨T, H, n, s.w0, w, k⟩, r, true, ⟨true, [], [], ws, ks, s.n, n⟩)
    | none => none
  | op => match evOp (rho G s.T) s.H.get s.n op with
    | some (r, ha) => bif mayW op || ha.wl.isEmpty then
        dstK s.T d r fun T => ha.heapK s.H s.n fun H => natK (ha.next s.n) fun n => listK (insW s.w0 ha.wl s.ws) fun w => listK (insW s.w0 ha.kl s.ks) fun k =>
          some (⟨T, H, n, s.w0, w, k⟩, r, true, ⟨false, op.cops.flatMap fun o => (rho G s.T o).refL, op.lops.flatMap fun o => (rho G s.T o).refL, ha.wl, ha.kl, s.n, n⟩)
      else none
    | none => none

def evI (G : Nat → AV) (call : CallF) (ri : RI) (s : Mc) : Option (Mc × AV × Bool × FP) :=
  match ri.op with
  | none => none
  | some op => match ri.guard with
    | none => evX G call ri.dst op s
    | some (t, w) => match s.T.get t with
      | some (.bool b) => bif (b == w) then evX G call ri.dst op s else dstK s.T ri.dst (.raw undef) fun T => some (⟨T, s.H, s.n, s.w0, s.ws, s.ks⟩, .raw undef, false, ⟨false, [], [], [], [], s.n, s.n⟩)
      | some (.raw (.tuple _)) => dstK s.T ri.dst (.raw undef) fun T => some (⟨T, s.H, s.n, s.w0, s.ws, s.ks⟩, .raw undef, false, ⟨false, [], [], [], [], s.n, s.n⟩)
      | _ => none

/-- What has turned among the first n objects stands in ws, and what is no longer there in ks. -/
structure Kept (H : Heap) (n : Nat) (ws ks : List Nat) (H' : Heap) : Prop where
  w : ∀ b, b < n → b ∉ ws → H' b = H b
  k : ∀ b, b < n → b ∉ ks → ∀ o, H b = some o → ∃ o', H' b = some o' ∧ o.like o'

structure Low (s s' : Mc) : Prop where
  w0 : s'.w0 = s.w0
  ws : ∀ b ∈ s.ws, b ∈ s'.ws
  ks : ∀ b ∈ s.ks, b ∈ s'.ks
  kept : Kept s.h s.w0 s'.ws s'.ks s'.h

theorem Low.refl (s : Mc) : Low s s := ⟨rfl, fun _ h => h, fun _ h => h, ⟨fun _ _ _ => rfl, fun _ _ _ o ho => ⟨o, ho, o.like_refl⟩⟩⟩
theorem Low.trans {a b c : Mc} (h : Low a b) (k : Low b c) : Low a c :=
  ⟨k.w0.trans h.w0, fun i hi => k.ws i (h.ws i hi), fun i hi => k.ks i (h.ks i hi),
   ⟨fun i h1 h2 => (k.kept.w i (by rw [h.w0]; exact h1) h2).trans (h.kept.w i h1 fun q => h2 (k.ws i q)),
    fun i h1 h2 o ho => by
      obtain ⟨o1, e1, l1⟩ := h.kept.k i h1 (fun q => h2 (k.ks i q)) o ho
      obtain ⟨o2, e2, l2⟩ := k.kept.k i (by rw [h.w0]; exact h1) h2 o1 e1
      exact ⟨o2, e2, AObj.like_trans l1 l2⟩⟩⟩

/-- What a caller of functions must keep. -/
def CallFOk (E : Env) (call : CallF) : Prop := ∀ fv as H n r H' n' ws ks, call fv as H n = some (r, H', n', ws, ks) → Fresh H.get n → CallOk E fv as H.get n r H'.get n' ∧ Kept H.get n ws ks H'.get ∧ ∀ f first cap, fv = .fn (.func f) first cap → HasBody E f

/-- What one step says. -/
structure StepOk (E : Env) (ro : Option Nat) (ri : RI) (s s' : Mc) (r : AV) (ex : Bool) (p : FP) : Prop where
  T : s'.t = putF s.t ri.dst r
  x : ex = false → s'.h = s.h ∧ s'.n = s.n ∧ r = .raw undef
  g : Grow s.h s.n s'.h s'.n
  W : ∀ b, b < s.n → ¬ p.W b → s'.h b = s.h b
  K : ∀ b, b < s.n → ¬ p.K b → ∀ o, s.h b = some o → ∃ o', s'.h b = some o' ∧ o.like o'
  WC : ∀ b, p.W b → p.C b
  n0 : p.n0 = s.n
  n1 : p.n1 = s'.n
  nw : ri.op.all mayW = false → p.wl = [] ∧ p.kl = []
  lo : s.w0 ≤ s.n → Low s s'
  gd : (ri.guard = none → ex = true) ∧ ∀ t w, ri.guard = some (t, w) → GuardAt (s.t t) w ex
  good : ex = true → ∀ o : Oper, (∃ op, ri.op = some op ∧ resolveOp E.P o.op = some op) → ∀ x a, RelW x → GOk E x → (∀ q ∈ o.op.operands, Rel x (aevalF E.G s.t q) (a.eval q)) → AgS p.C p.L x s.h → (∀ b, s.n ≤ b → b < s'.n → ¬ x.used b) →
    GoodN E ro o a x s.h s.n r s'.h s'.n

end Go.Abs

namespace Go.Abs
open Go

theorem bif_some2 {α : Type} {c : Bool} {a : Option α} {b : α} (h : (bif c then a else none) = some b) : c = true ∧ a = some b := by cases c <;> simp_all

theorem evOp_put {ρ : Operand → AV} {H : Heap} {n : Nat} {rop : ROp} {r : AV} {b : Nat} {o : AObj} (h : evOp ρ H n rop = some (r, .put b o)) :
    ∃ o0, H b = some o0 ∧ o0.like o ∧ ∃ p ∈ rop.cops, (ρ p).isRef b := by
  cases rop <;> simp only [evOp] at h
  case store m p v =>
    cases hf : fitB (ρ v) m with
    | false => simp [hf] at h
    | true =>
      obtain ⟨f1, f2⟩ := fitB_ok hf
      simp only [hf, cond_true] at h
      split at h
      · rename_i b off hp
        split at h
        · rename_i cs hb
          obtain ⟨h1, h2⟩ := bif_some h
          simp only [Prod.mk.injEq, HA.put.injEq] at h2
          obtain ⟨-, rfl, rfl⟩ := h2
          have h1 : off + m ≤ cs.length := by simpa using h1
          exact ⟨_, hb, by simp [AObj.like, lay]; omega, p, by simp [ROp.cops], by rw [hp]; exact rfl⟩
        · cases h
      · rename_i b k off hp
        split at h
        · rename_i sz es hb
          obtain ⟨h1, h2⟩ := bif_some h
          simp only [Prod.mk.injEq, HA.put.injEq] at h2
          obtain ⟨-, rfl, rfl⟩ := h2
          exact ⟨_, hb, by simp [AObj.like], p, by simp [ROp.cops], by rw [hp]; exact rfl⟩
        · cases h
      · cases h
  case mapup d m k v =>
    split at h
    · rename_i b hm
      split at h
      · rename_i fl es hb
        obtain ⟨h1, h2⟩ := bif_some h
        simp only [Prod.mk.injEq, HA.put.injEq] at h2
        obtain ⟨-, rfl, rfl⟩ := h2
        exact ⟨_, hb, trivial, m, by simp [ROp.cops], by rw [hm]; exact rfl⟩
      · cases h
    · cases h
  case clr m =>
    split at h
    · rename_i b hm
      split at h
      · rename_i fl es hb
        simp only [Option.some.injEq, Prod.mk.injEq, HA.put.injEq] at h
        obtain ⟨-, rfl, rfl⟩ := h
        exact ⟨_, hb, trivial, m, by simp [ROp.cops], by rw [hm]; exact rfl⟩
      · cases h
    · cases h
  case del d m k =>
    split at h
    · rename_i b hm
      split at h
      · rename_i fl es hb
        obtain ⟨h1, h2⟩ := bif_some h
        simp only [Prod.mk.injEq, HA.put.injEq] at h2
        obtain ⟨-, rfl, rfl⟩ := h2
        exact ⟨_, hb, trivial, m, by simp [ROp.cops], by rw [hm]; exact rfl⟩
      · cases h
    · cases h
  case nxt it =>
    split at h
    · rename_i b m hm
      split at h
      · rename_i L k es hb hmm
        obtain ⟨h1, h2⟩ := bif_some2 h
        cases hk : Nat.beq k L with
        | true => simp [hk] at h2
        | false =>
          simp only [hk, cond_false] at h2
          obtain ⟨h3, h4⟩ := bif_some h2
          simp only [Prod.mk.injEq, HA.put.injEq] at h4
          obtain ⟨-, rfl, rfl⟩ := h4
          exact ⟨_, hb, trivial, it, by simp [ROp.cops], by rw [hm]; exact .inl rfl⟩
      · cases h
    · cases h
  case cpV sz dv s =>
    split at h
    · rename_i b off m sz' es hm hes
      split at h
      · rename_i cs hb
        obtain ⟨h1, h2⟩ := bif_some h
        simp only [Prod.mk.injEq, HA.put.injEq] at h2
        obtain ⟨-, rfl, rfl⟩ := h2
        simp only [Bool.and_eq_true, Nat.beq_eq, Nat.ble_eq] at h1
        exact ⟨_, hb, by simp only [AObj.like, lay, List.length_append, List.length_take, List.length_drop]; omega, dv, by simp [ROp.cops], by rw [hm]; exact rfl⟩
      · cases h
    · cases h
  all_goals
    exfalso
    repeat' (split at h)
    all_goals first
      | (cases h; done)
      | (have h2 := (bif_some h).2; simp at h2; done)
      | (simp at h; done)

theorem evOp_app {ρ : Operand → AV} {H : Heap} {n : Nat} {rop : ROp} {r : AV} {b : Nat} {o : AObj} (h : evOp ρ H n rop = some (r, .app (some b) o)) :
    H b ≠ none ∧ ∃ p ∈ rop.cops, (ρ p).isRef b := by
  cases rop <;> simp only [evOp] at h
  case app sz bytes s x =>
    split at h
    · rename_i ss k xs hs hx
      obtain ⟨h1, h2⟩ := bif_some h
      simp only [Prod.mk.injEq, HA.app.injEq] at h2
      obtain ⟨-, rfl, -⟩ := h2
      have hb := baseB_ok hs
      refine ⟨hb.key b rfl, s, by simp [ROp.cops], ?_⟩
      generalize ρ s = q at hb
      cases hb with
      | row h hl => exact rfl
    · cases h
  case store m p v =>
    exfalso
    cases hf : fitB (ρ v) m with
    | false => simp [hf] at h
    | true =>
      simp only [hf, cond_true] at h
      repeat' (split at h)
      all_goals first
        | (cases h; done)
        | (have h2 := (bif_some h).2; simp at h2; done)
  all_goals
    exfalso
    repeat' (split at h)
    all_goals first
      | (cases h; done)
      | (have h2 := (bif_some h).2; simp at h2; done)
      | (simp at h; done)
      | (obtain ⟨h1, h2⟩ := bif_some2 h
         cases hk : Nat.beq ‹_› ‹_› <;> simp [hk] at h2
         have := (bif_some h2).2; simp at this; done)
      | (obtain ⟨h1, h2⟩ := bif_some2 h
         revert h2; generalize Nat.beq _ _ = c1; generalize Nat.beq _ _ = c2
         cases c1 <;> cases c2 <;> simp)

theorem HA.grow {H : Heap} {n : Nat} (hf : Fresh H n) (ha : HA) (hp : ∀ b o, ha = .put b o → ∃ o0, H b = some o0) : Grow H n (ha.heap H n) (ha.next n) := by
  cases ha with
  | keep => exact .refl hf
  | put b o =>
    obtain ⟨o0, h0⟩ := hp b o rfl
    refine ⟨Nat.le_refl _, fun i hi => ?_, fun i h1 h2 => ?_⟩
    · have : i ≠ b := fun e => by rw [e] at hi; rw [hf b hi] at h0; cases h0
      simp only [HA.heap, Heap.upd, if_neg this]; exact hf i hi
    · by_cases e : i = b
      · subst e; rw [h1] at h0; cases h0
      · simp only [HA.heap, Heap.upd, if_neg e] at h2; exact absurd h1 h2
  | new o =>
    refine ⟨Nat.le_succ _, fun i hi => ?_, fun i h1 h2 => ?_⟩
    · have hi : n + 1 ≤ i := hi
      simp only [HA.heap, Heap.upd, if_neg (show i ≠ n by omega)]; exact hf i (by omega)
    · by_cases e : i = n
      · omega
      · simp only [HA.heap, Heap.upd, if_neg e] at h2; exact absurd h1 h2
  | app k o =>
    refine ⟨Nat.le_succ _, fun i hi => ?_, fun i h1 h2 => ?_⟩
    · have hi : n + 1 ≤ i := hi
      simp only [HA.heap, Heap.upd, if_neg (show i ≠ n by omega)]
      have := hf i (by omega)
      cases k with
      | none => exact this
      | some k => simp only [Heap.delO, Heap.del]; split <;> simp [this]
    · by_cases e : i = n
      · omega
      · simp only [HA.heap, Heap.upd, if_neg e] at h2
        cases k with
        | none => exact absurd h1 h2
        | some k => simp only [Heap.delO, Heap.del] at h2; split at h2 <;> simp_all

theorem evX_ok {E : Env} {ro : Option Nat} {call : CallF} (hc : CallFOk E call) {ri : RI} {op : ROp} (hri : ri.op = some op) {s s' : Mc} {r : AV} {ex : Bool} {p : FP} (hf : Fresh s.h s.n) (hgd : (ri.guard = none → true = true) ∧ ∀ t w, ri.guard = some (t, w) → GuardAt (s.t t) w true)
    (h : evX E.G call ri.dst op s = some (s', r, ex, p)) : StepOk E ro ri s s' r ex p := by
  unfold evX at h
  have restrict : ∀ (o : Oper), resolveOp E.P o.op = some op → ∀ (x : Ctx) (a : Act), GOk E x → (∀ q ∈ o.op.operands, Rel x (aevalF E.G s.t q) (a.eval q)) →
      ∃ ρ' : Operand → AV, (∀ q ∈ op.ops, ρ' q = rho E.G s.T q) ∧ ∀ q, Rel x (ρ' q) (a.eval q) := fun o ho x a hG hr => by
    classical
    refine ⟨fun q => if q ∈ o.op.operands then aevalF E.G s.t q else .any, fun q hq => ?_, fun q => ?_⟩
    · show (if q ∈ o.op.operands then aevalF E.G s.t q else .any) = _
      rw [if_pos (resolve_ops ho q hq), rho_eq]
    · simp only
      split
      · rename_i hq; exact hr q hq
      · exact .any _
  split at h
  · rename_i f args
    split at h
    · rename_i r0 H0 n0 ws0 ks0 hcall
      simp only [dstK_eq, natK_eq, listK_eq, Option.some.injEq, Prod.mk.injEq] at h
      obtain ⟨rfl, rfl, rfl, rfl⟩ := h
      obtain ⟨hok, hlo, -⟩ := hc _ _ _ _ _ _ _ _ _ hcall hf
      refine ⟨?_, fun h => (by cases h), ⟨hok.1, hok.2.1, hok.2.2.1⟩, fun b hb hw => ?_, fun b hb hk o ho => ?_, fun b hw => .inl rfl, rfl, rfl, fun hm => by rw [hri] at hm; simp [mayW] at hm, fun hw0 => ⟨rfl, fun b hb => insW_old hb, fun b hb => insW_old hb, ⟨fun b h1 h2 => hlo.w b (Nat.lt_of_lt_of_le h1 hw0) fun q => h2 (insW_new q h1), fun b h1 h2 => hlo.k b (Nat.lt_of_lt_of_le h1 hw0) fun q => h2 (insW_new q h1)⟩⟩, hgd, ?_⟩
      · exact dstT_get _ _ _
      · exact hlo.w b hb hw
      · exact hlo.k b hb hk o ho
      · rintro - o ⟨op', hop', hres⟩ x a hW hG hr hA hN
        rw [hri] at hop'; cases hop'
        obtain ⟨ρ', h1, h2⟩ := restrict o hres x a hG hr
        have hA' : AgS (fun _ => True) (fun _ => True) x s.h := ⟨fun b _ => hA.cont b (.inl rfl), fun b o _ => hA.like b o (.inl rfl)⟩
        -- the operation is a call
        cases hop : o.op <;> rw [hop] at hres <;> simp only [resolveOp] at hres
        case call c =>
          obtain ⟨callee, cargs, ts⟩ := c
          simp only [resolveCall] at hres
          split at hres
          · rename_i fo args' _
            cases hres
            refine op_call (ρ := ρ') hop ?_ hW hG h2 hA' hN
            rw [h1 _ (by simp [ROp.ops]), List.map_congr_left fun q hq => h1 q (by simp only [ROp.ops, List.mem_cons]; exact .inr hq)]
            exact hok
          all_goals
            exfalso
            repeat' (split at hres)
            all_goals first | (cases hres; done) | (simp at hres; done)
        case makeMap t r =>
          exfalso
          cases r with
          | none => cases hres
          | some q =>
            simp only at hres
            repeat' (split at hres)
            all_goals cases hres
        case slice t y lo hi mx =>
          exfalso
          cases mx with
          | some q => simp at hres
          | none =>
            simp only at hres
            repeat' (split at hres)
            all_goals cases hres
        all_goals
          exfalso
          repeat' (split at hres)
          all_goals first
            | (cases hres; done)
            | (simp at hres; done)
            | (simp only [Option.map_eq_some_iff] at hres; obtain ⟨_, _, hh⟩ := hres; cases hh)
    · cases h
  · rename_i hnc
    split at h
    · rename_i r0 ha hev
      cases hmw : (mayW op || ha.wl.isEmpty) with
      | false => simp [hmw] at h
      | true =>
        simp only [hmw, cond_true, dstK_eq, natK_eq, listK_eq, HA.heapK_eq, Option.some.injEq, Prod.mk.injEq] at h
        obtain ⟨rfl, rfl, rfl, rfl⟩ := h
        have hput := fun b o (e : ha = .put b o) => evOp_put (by rw [← e]; exact hev)
        have happ := fun b o (e : ha = .app (some b) o) => evOp_app (by rw [← e]; exact hev)
        have hg := ha.grow hf fun b o e => let ⟨o0, h0, _⟩ := hput b o e; ⟨o0, h0⟩
        have hh : (HA.heapT s.H s.n ha).get = ha.heap s.h s.n := HA.heapT_get ..
        have keep : ∀ b, b < s.n → b ∉ ha.wl → ha.heap s.h s.n b = s.h b := fun b hb hw => by
          cases ha with
          | keep => rfl
          | put b' o => simp only [HA.wl, List.mem_singleton] at hw; simp only [HA.heap, Heap.upd, if_neg hw]
          | new o => simp only [HA.heap, Heap.upd, if_neg (show b ≠ s.n by omega)]
          | app k o => cases k with
            | none => simp only [HA.heap, Heap.upd, if_neg (show b ≠ s.n by omega), Heap.delO]
            | some k => simp only [HA.wl, List.mem_singleton] at hw; simp only [HA.heap, Heap.upd, if_neg (show b ≠ s.n by omega), Heap.delO, Heap.del, if_neg hw]
        have keepK : ∀ b, b < s.n → b ∉ ha.kl → ∀ o, s.h b = some o → ∃ o', ha.heap s.h s.n b = some o' ∧ o.like o' := fun b hb hk o ho => by
          by_cases hm : b ∈ ha.wl
          · cases ha with
            | put b' o' =>
              simp only [HA.wl, List.mem_singleton] at hm; subst hm
              obtain ⟨o0, h0, h1, _⟩ := hput _ _ rfl
              have h0 : s.h b = some o0 := h0
              rw [ho] at h0; cases h0
              exact ⟨o', by simp [HA.heap, Heap.upd], h1⟩
            | app k o' => cases k with
              | none => cases hm
              | some k => exact absurd hm hk
            | _ => cases hm
          · exact ⟨o, (keep b hb hm).trans ho, o.like_refl⟩
        have hcl : ∀ b q, q ∈ op.cops → (rho E.G s.T q).isRef b → b ∈ op.cops.flatMap fun o => (rho E.G s.T o).refL := fun b q hq hr => List.mem_flatMap.2 ⟨q, hq, AV.refL_ok hr⟩
        refine ⟨?_, fun h => (by cases h), ?_, fun b hb hw => ?_, fun b hb hk o ho => ?_, fun b hw => ?_, rfl, rfl, fun hm => ?_, fun hw0 => ⟨rfl, fun b hb => insW_old hb, fun b hb => insW_old hb, ⟨fun b h1 h2 => ?_, fun b h1 h2 => ?_⟩⟩, hgd, ?_⟩
        · exact dstT_get _ _ _
        · show Grow s.h s.n (HA.heapT s.H s.n ha).get (ha.next s.n)
          rw [hh]; exact hg
        · show (HA.heapT s.H s.n ha).get b = _
          rw [hh]; exact keep b hb fun hm => hw hm
        · show ∃ o', (HA.heapT s.H s.n ha).get b = some o' ∧ _
          rw [hh]
          exact keepK b hb hk o ho
        · refine .inr ?_
          cases ha with
          | put b' o' =>
            simp only [FP.W, HA.wl, List.mem_singleton] at hw; subst hw
            obtain ⟨o0, h0, h1, q, hq, hr⟩ := hput _ _ rfl
            exact hcl _ q hq hr
          | app k o' => cases k with
            | none => cases hw
            | some k =>
              simp only [FP.W, HA.wl, List.mem_singleton] at hw; subst hw
              obtain ⟨h0, q, hq, hr⟩ := happ _ _ rfl
              exact hcl _ q hq hr
          | _ => cases hw
        · rw [hri] at hm
          simp only [Option.all_some] at hm
          rw [hm, Bool.false_or, List.isEmpty_iff] at hmw
          refine ⟨hmw, ?_⟩
          cases ha with
          | app k o' => cases k with
            | none => rfl
            | some k => simp [HA.wl] at hmw
          | _ => rfl
        · show (HA.heapT s.H s.n ha).get b = _
          rw [hh]
          exact keep b (Nat.lt_of_lt_of_le h1 hw0) fun hm => h2 (insW_new hm h1)
        · intro o ho
          show ∃ o', (HA.heapT s.H s.n ha).get b = some o' ∧ _
          rw [hh]
          exact keepK b (Nat.lt_of_lt_of_le h1 hw0) (fun hm => h2 (insW_new hm h1)) o ho
        · rintro - o ⟨op', hop', hres⟩ x a hW hG hr hA hN
          rw [hri] at hop'; cases hop'
          obtain ⟨ρ', h1, h2⟩ := restrict o hres x a hG hr
          have hev' : evOp ρ' s.h s.n op = some (r0, ha) := (evOp_congr h1).trans hev
          have hls := evOp_ok (E := E) (hf s.n (Nat.le_refl _)) hev'
          have hnext : ∀ b, s.h b = none → ha.heap s.h s.n b ≠ none → s.n ≤ b ∧ b < ha.next s.n := fun b q1 q2 => ⟨hg.new b q1 q2, Classical.byContradiction fun hge => q2 (hg.fresh b (by omega))⟩
          have hgood := op_good (ro := ro) (a := a) (x := x) hres hls (C := FP.C _) (L := FP.L _) ⟨hW, hG, h2, hA, fun b q1 q2 => hN b (hnext b q1 q2).1 (hnext b q1 q2).2⟩
            (fun q hq b hr => .inr (List.mem_flatMap.2 ⟨q, hq, AV.refL_ok (by rw [← h1 q (cops_ops hq)]; exact hr)⟩)) (fun q hq b hr => .inr (List.mem_flatMap.2 ⟨q, hq, AV.refL_ok (by rw [← h1 q (lops_ops hq)]; exact hr)⟩))
          intro K Q hK
          refine hgood K Q fun v x' k1 k2 k3 k4 k5 => hK v x' k1 k2 k3 ?_ fun b hb => ?_
          · rw [k4]; show _ = patch x.H s.h (HA.heapT s.H s.n ha).get; rw [hh]
          · rcases k5 b hb with q | ⟨q1, q2⟩
            · exact .inl q
            · exact .inr (hnext b q1 q2)
    · cases h

theorem evI_ok {E : Env} {ro : Option Nat} {call : CallF} (hc : CallFOk E call) {ri : RI} {s s' : Mc} {r : AV} {ex : Bool} {p : FP} (hf : Fresh s.h s.n) (h : evI E.G call ri s = some (s', r, ex, p)) : StepOk E ro ri s s' r ex p := by
  unfold evI at h
  split at h
  · cases h
  · rename_i op hop
    split at h
    · rename_i hgd
      exact evX_ok hc hop hf ⟨fun _ => rfl, fun t w e => by rw [hgd] at e; cases e⟩ h
    · rename_i t w hgd
      split at h
      · rename_i b hb
        have htb : s.t t = .bool b := by simp [Mc.t, hb]
        cases hbw : (b == w) with
        | true =>
          simp only [hbw, cond_true] at h
          exact evX_ok hc hop hf ⟨fun _ => rfl, fun t' w' e => by rw [hgd] at e; cases e; exact .inl ⟨b, htb, hbw.symm⟩⟩ h
        | false =>
          simp only [hbw, cond_false, dstK_eq, Option.some.injEq, Prod.mk.injEq] at h
          obtain ⟨rfl, rfl, rfl, rfl⟩ := h
          refine ⟨dstT_get _ _ _, fun _ => ⟨rfl, rfl, rfl⟩, .refl hf, fun _ _ _ => rfl, fun b _ _ o ho => ⟨o, ho, o.like_refl⟩, fun b hw => ?_, rfl, rfl, fun _ => ⟨rfl, rfl⟩, fun _ => ⟨rfl, fun _ h => h, fun _ h => h, ⟨fun _ _ _ => rfl, fun _ _ _ o ho => ⟨o, ho, o.like_refl⟩⟩⟩, ⟨fun e => (by rw [hgd] at e; cases e), fun t' w' e => (by rw [hgd] at e; cases e; exact .inl ⟨b, htb, hbw.symm⟩)⟩, fun h => by cases h⟩
          cases hw
      · rename_i vs hb
        have htb : s.t t = .raw (.tuple vs) := by simp [Mc.t, hb]
        simp only [dstK_eq, Option.some.injEq, Prod.mk.injEq] at h
        obtain ⟨rfl, rfl, rfl, rfl⟩ := h
        refine ⟨dstT_get _ _ _, fun _ => ⟨rfl, rfl, rfl⟩, .refl hf, fun _ _ _ => rfl, fun b _ _ o ho => ⟨o, ho, o.like_refl⟩, fun b hw => ?_, rfl, rfl, fun _ => ⟨rfl, rfl⟩, fun _ => ⟨rfl, fun _ h => h, fun _ h => h, ⟨fun _ _ _ => rfl, fun _ _ _ o ho => ⟨o, ho, o.like_refl⟩⟩⟩, ⟨fun e => (by rw [hgd] at e; cases e), fun t' w' e => (by rw [hgd] at e; cases e; exact .inr ⟨vs, htb, rfl⟩)⟩, fun h => by cases h⟩
        cases hw
      · cases h

end Go.Abs

namespace Go.Abs
open Go

def evIs (G : Nat → AV) (call : CallF) : List RI → Mc → Option (Mc × List FP)
  | [], s => some (s, [])
  | ri :: l, s => match evI G call ri s with
    | none => none
    | some (s1, _, _, p) => match evIs G call l s1 with
      | none => none
      | some (s2, ps) => some (s2, p :: ps)

def seqS (G : Nat → AV) (call : CallF) : List RI → Mc → Nat → Mc
  | _, s, 0 => s
  | [], s, _ + 1 => s
  | ri :: l, s, i + 1 => match evI G call ri s with
    | some (s1, _, _, _) => seqS G call l s1 i
    | none => s

theorem seqS_nil (G : Nat → AV) (call : CallF) (s : Mc) (i : Nat) : seqS G call [] s i = s := by cases i <;> rfl

theorem evIs_seq {G : Nat → AV} {call : CallF} : ∀ {l : List RI} {s s' : Mc} {ps : List FP}, evIs G call l s = some (s', ps) →
    seqS G call l s l.length = s' ∧ ps.length = l.length ∧ (∀ i, l.length ≤ i → seqS G call l s i = s') ∧
    ∀ i ri, l[i]? = some ri → ∃ r ex p, evI G call ri (seqS G call l s i) = some (seqS G call l s (i + 1), r, ex, p) ∧ ps[i]? = some p
  | [], s, s', ps, h => by
    simp only [evIs, Option.some.injEq, Prod.mk.injEq] at h
    obtain ⟨rfl, rfl⟩ := h
    exact ⟨rfl, rfl, fun i _ => seqS_nil .., fun i ri hi => by simp at hi⟩
  | ri :: l, s, s', ps, h => by
    simp only [evIs] at h
    split at h
    · cases h
    · rename_i s1 r ex p hev
      split at h
      · cases h
      · rename_i s2 ps' hl
        simp only [Option.some.injEq, Prod.mk.injEq] at h
        obtain ⟨rfl, rfl⟩ := h
        obtain ⟨h1, h2, h3, h4⟩ := evIs_seq hl
        refine ⟨by simp only [List.length_cons, seqS, hev]; exact h1, by simp [h2], fun i hi => ?_, fun i ri' hi => ?_⟩
        · cases i with
          | zero => simp at hi
          | succ i => simp only [seqS, hev]; exact h3 i (by simpa using hi)
        · cases i with
          | zero =>
            simp only [List.getElem?_cons_zero, Option.some.injEq] at hi; subst hi
            refine ⟨r, ex, p, ?_, by simp⟩
            have : seqS G call l s1 0 = s1 := by cases l <;> rfl
            simp only [seqS, hev, this]
          | succ i =>
            obtain ⟨r', ex', p', e1, e2⟩ := h4 i ri' (by simpa using hi)
            exact ⟨r', ex', p', by simpa only [seqS, hev] using e1, by simpa using e2⟩

/-- The resolved form of a region. -/
def compI (P : Program) (ops : Array Oper) (o : Oper) : RI :=
  { dst := o.dst, op := resolveOp P o.op,
    guard := match o.guard with | none => none | some (j, w) => match (ops[j]?).bind (·.dst) with | some d => some (d, w) | none => none }
/-- A guard has a place to look at. -/
def guardOk (ops : Array Oper) (o : Oper) : Bool := match o.guard with | none => true | some (j, _) => ((ops[j]?).bind (·.dst)).isSome
def dstOk (N : Nat) (o : Oper) : Bool := match o.dst with | none => true | some d => Nat.blt d N

def regOk (N : Nat) (ops : Array Oper) : Bool := ops.toList.all fun o => guardOk ops o && dstOk N o

section
variable {E : Env} {ro : Option Nat} {call : CallF} {ops : Array Oper} {N : Nat}

theorem regOk_at (h : regOk N ops = true) {i : Nat} {o : Oper} (ho : ops[i]? = some o) : guardOk ops o = true ∧ dstOk N o = true := by
  have hm : o ∈ ops.toList := by rw [Array.mem_toList_iff]; exact Array.mem_of_getElem? ho
  have := List.all_eq_true.1 h o hm
  simpa using this

theorem regOk_dst (h : regOk N ops = true) : ∀ (i : Nat) (o : Oper) (d : Nat), ops[i]? = some o → o.dst = some d → d < N := fun i o d ho hd => by
  have := (regOk_at h ho).2
  simpa [dstOk, hd] using this

theorem comp_get {P : Program} {l : List RI} (hl : l = ops.toList.map (compI P ops)) (i : Nat) : l[i]? = (ops[i]?).map (compI P ops) := by
  subst hl; simp

theorem seqS_get0 (G : Nat → AV) (l : List RI) (s : Mc) : seqS G call l s 0 = s := by cases l <;> rfl

def stepR (G : Nat → AV) (call : CallF) (l : List RI) (s : Mc) (i : Nat) : AV × Bool × FP :=
  match l[i]? with
  | none => (.raw undef, false, default)
  | some ri => match evI G call ri (seqS G call l s i) with
    | some (_, r, ex, p) => (r, ex, p)
    | none => (.raw undef, false, default)

/-- Every step of a region that went through. -/
theorem steps_ok (hc : CallFOk E call) {l : List RI} {s s' : Mc} {ps : List FP} (hf : Fresh s.h s.n) (h : evIs E.G call l s = some (s', ps)) :
    (∀ i, Grow s.h s.n (seqS E.G call l s i).h (seqS E.G call l s i).n) ∧
    (∀ i ri, l[i]? = some ri → StepOk E ro ri (seqS E.G call l s i) (seqS E.G call l s (i + 1)) (stepR E.G call l s i).1 (stepR E.G call l s i).2.1 (stepR E.G call l s i).2.2 ∧ ps[i]? = some (stepR E.G call l s i).2.2) ∧
    (∀ i, l[i]? = none → seqS E.G call l s (i + 1) = seqS E.G call l s i ∧ stepR E.G call l s i = (.raw undef, false, default)) := by
  obtain ⟨h1, h2, h3, h4⟩ := evIs_seq h
  have hnone : ∀ i, l[i]? = none → seqS E.G call l s (i + 1) = seqS E.G call l s i := fun i hi => by
    have : l.length ≤ i := by simpa using hi
    rw [h3 i this, h3 (i + 1) (by omega)]
  have hg : ∀ i, Grow s.h s.n (seqS E.G call l s i).h (seqS E.G call l s i).n := by
    intro i
    induction i with
    | zero => rw [seqS_get0]; exact .refl hf
    | succ i ih =>
      cases hi : l[i]? with
      | none => rw [hnone i hi]; exact ih
      | some ri =>
        obtain ⟨r, ex, p, e, _⟩ := h4 i ri hi
        exact ih.trans (evI_ok (ro := ro) hc ih.fresh e).g
  refine ⟨hg, fun i ri hi => ?_, fun i hi => ⟨hnone i hi, by simp only [stepR, hi]⟩⟩
  obtain ⟨r, ex, p, e, ep⟩ := h4 i ri hi
  have : stepR E.G call l s i = (r, ex, p) := by simp only [stepR, hi, e]
  rw [this]
  exact ⟨evI_ok hc (hg i).fresh e, ep⟩

theorem guard_spec {P : Program} {o : Oper} (hg : guardOk ops o = true) {t : Nat → AV} {ex : Bool} (h : ((compI P ops o).guard = none → ex = true) ∧ ∀ d w, (compI P ops o).guard = some (d, w) → GuardAt (t d) w ex) :
    (o.guard = none → ex = true) ∧ ∀ j w, o.guard = some (j, w) → ∃ d, (ops[j]?).bind (·.dst) = some d ∧ GuardAt (t d) w ex := by
  refine ⟨fun e => h.1 (by simp [compI, e]), fun j w e => ?_⟩
  simp only [guardOk, e] at hg
  obtain ⟨d, hd⟩ := Option.isSome_iff_exists.1 hg
  exact ⟨d, hd, h.2 d w (by simp [compI, e, hd])⟩

/-- A REGION IN THE ORDER OF THE TEXT, RECKONED. -/
theorem Big.reg (hc : CallFOk E call) (hr : regOk N ops = true) {id : Nat} {l : List RI} (hl : l = ops.toList.map (compI E.P ops)) {s s' : Mc} {ps : List FP} (hf : Fresh s.h s.n) (h : evIs E.G call l s = some (s', ps)) :
    Big E ro N (.region id ops false) ⟨s.t, s.h, s.n⟩ .normal ⟨s'.t, s'.h, s'.n⟩ := by
  obtain ⟨hg, hs, hn⟩ := steps_ok (ro := ro) hc hf h
  have hend : seqS E.G call l s ops.size = s' := by
    have := (evIs_seq h).1
    rwa [show l.length = ops.size by rw [hl]; simp] at this
  let c : Line E ro ops :=
    { T := fun i => (seqS E.G call l s i).t, H := fun i => (seqS E.G call l s i).h, n := fun i => (seqS E.G call l s i).n, r := fun i => (stepR E.G call l s i).1, ex := fun i => (stepR E.G call l s i).2.1
      hT := fun i => by
        cases hi : ops[i]? with
        | none =>
          obtain ⟨e1, e2⟩ := hn i (by rw [comp_get hl, hi]; rfl)
          simp only [e1, Option.bind_none, putF]
        | some o =>
          have := (hs i (compI E.P ops o) (by rw [comp_get hl, hi]; rfl)).1.T
          simpa [compI] using this
      hx := fun i hex => by
        cases hi : ops[i]? with
        | none =>
          obtain ⟨e1, e2⟩ := hn i (by rw [comp_get hl, hi]; rfl)
          simp only [e1, e2]; exact ⟨trivial, trivial, trivial⟩
        | some o => exact (hs i (compI E.P ops o) (by rw [comp_get hl, hi]; rfl)).1.x hex
      hg := fun i o ho => guard_spec (regOk_at hr ho).1 (hs i (compI E.P ops o) (by rw [comp_get hl, ho]; rfl)).1.gd
      grow := fun i hfi => by
        cases hi : ops[i]? with
        | none =>
          obtain ⟨e1, e2⟩ := hn i (by rw [comp_get hl, hi]; rfl)
          simp only [e1]; exact .refl hfi
        | some o => exact (hs i (compI E.P ops o) (by rw [comp_get hl, hi]; rfl)).1.g
      good := fun i o ho hex hfi x a hW hG hrel hA hN => by
        have hst := (hs i (compI E.P ops o) (by rw [comp_get hl, ho]; rfl)).1
        cases hop : resolveOp E.P o.op with
        | none =>
          obtain ⟨r, ex, p, e, _⟩ := (evIs_seq h).2.2.2 i (compI E.P ops o) (by rw [comp_get hl, ho]; rfl)
          simp [evI, compI, hop] at e
        | some op => exact hst.good hex o ⟨op, hop, hop⟩ x a hW hG hrel ⟨fun b _ => hA.cont b trivial, fun b o _ => hA.like b o trivial⟩ hN }
  have := Big.region_line (id := id) (N := N) c (regOk_dst hr)
  simp only [c, seqS_get0, hend] at this
  exact this

end
end Go.Abs

namespace Go.Abs
open Go

inductive Bf (ops : Array Oper) : Nat → Nat → Prop
  | dir {i : Nat} {o : Oper} {e : Edge} (ho : ops[i]? = some o) (he : e ∈ o.after) (hb : Region.binds .any e = true) : Bf ops e.on i
  | tr {i j : Nat} {o : Oper} {e : Edge} (ho : ops[i]? = some o) (he : e ∈ o.after) (hb : Region.binds .any e = true) (h : Bf ops j e.on) : Bf ops j i

def maskOf (acc : List Nat) (l : List Edge) (s : Nat) : Nat := l.foldl (fun s e => bif Region.binds .any e then s ||| 2 ^ e.on ||| acc.getD e.on 0 else s) s

theorem maskOf_bit {acc : List Nat} {j : Nat} : ∀ {l : List Edge} {s : Nat}, (maskOf acc l s).testBit j = true → s.testBit j = true ∨ ∃ e ∈ l, Region.binds .any e = true ∧ (e.on = j ∨ (acc.getD e.on 0).testBit j = true)
  | [], s, h => .inl h
  | e :: l, s, h => by
    have h' : (maskOf acc l (bif Region.binds .any e then s ||| 2 ^ e.on ||| acc.getD e.on 0 else s)).testBit j = true := h
    rcases maskOf_bit h' with h1 | ⟨e', he', h1⟩
    · cases hb : Region.binds .any e with
      | false => rw [hb] at h1; exact .inl h1
      | true =>
        rw [hb] at h1
        simp only [cond_true, Nat.testBit_or, Nat.testBit_two_pow, Bool.or_eq_true, decide_eq_true_eq] at h1
        rcases h1 with (h1 | h1) | h1
        · exact .inl h1
        · exact .inr ⟨e, by simp, hb, .inl h1⟩
        · exact .inr ⟨e, by simp, hb, .inr h1⟩
    · exact .inr ⟨e', by simp [he'], h1⟩

def mkMasks (acc : List Nat) : List Oper → List Nat
  | [] => acc
  | o :: l => mkMasks (acc ++ [maskOf acc o.after.toList 0]) l

theorem mkMasks_ok {ops : Array Oper} : ∀ {l pre : List Oper} {acc : List Nat}, ops.toList = pre ++ l → acc.length = pre.length → (∀ i j, (acc.getD i 0).testBit j = true → Bf ops j i) →
    ∀ i j, ((mkMasks acc l).getD i 0).testBit j = true → Bf ops j i
  | [], pre, acc, he, hl, h => h
  | o :: l, pre, acc, he, hl, h => by
    refine mkMasks_ok (l := l) (pre := pre ++ [o]) (acc := acc ++ [maskOf acc o.after.toList 0]) (by rw [he]; simp) (by simp [hl]) fun i j hb => ?_
    rcases Nat.lt_trichotomy i acc.length with hi | hi | hi
    · refine h i j ?_
      simpa [List.getD_eq_getElem?_getD, List.getElem?_append_left hi] using hb
    · subst hi
      have hb : (maskOf acc o.after.toList 0).testBit j = true := by simpa [List.getD_eq_getElem?_getD] using hb
      have ho : ops[acc.length]? = some o := by
        rw [← Array.getElem?_toList, he, hl]; simp
      rcases maskOf_bit hb with h0 | ⟨e, he', hbd, h1⟩
      · simp at h0
      · have hmem : e ∈ o.after := Array.mem_def.2 he'
        rcases h1 with rfl | h1
        · exact .dir ho hmem hbd
        · exact .tr ho hmem hbd (h _ _ h1)
    · rw [List.getD_eq_getElem?_getD, List.getElem?_eq_none (by simp; omega)] at hb
      simp at hb

def masks (ops : Array Oper) : List Nat := mkMasks [] ops.toList
theorem masks_ok {ops : Array Oper} {i j : Nat} (h : ((masks ops).getD i 0).testBit j = true) : Bf ops j i := mkMasks_ok (l := ops.toList) (pre := []) (acc := []) rfl rfl (fun i j h => by simp at h) i j h

def cmpb (ms : List Nat) (i j : Nat) : Bool := (ms.getD j 0).testBit i || (ms.getD i 0).testBit j
theorem cmpb_ok {ops : Array Oper} {i j : Nat} (h : cmpb (masks ops) i j = true) : Bf ops i j ∨ Bf ops j i := by
  simp only [cmpb, Bool.or_eq_true] at h
  exact h.imp masks_ok masks_ok

def looksB (ops : Array Oper) (o : Oper) (d : Nat) : Bool :=
  (o.op.operands.toList.any fun | .tmp t => Nat.beq t d | _ => false) || (match o.guard with | none => false | some (j, _) => match (ops[j]?).bind (·.dst) with | some t => Nat.beq t d | none => false)

theorem looksB_ok {ops : Array Oper} {o : Oper} {d : Nat} (h : looks ops o d) : looksB ops o d = true := by
  simp only [looksB, Bool.or_eq_true]
  rcases h with h | ⟨j, w, hg, hd⟩
  · exact .inl (List.any_eq_true.2 ⟨.tmp d, Array.mem_def.1 h, by simp⟩)
  · refine .inr ?_
    simp [hg, hd]

def depsOk (ops : Array Oper) : Bool := ops.toList.zipIdx.all fun q => q.1.after.toList.all fun e => !Region.binds .any e || Nat.blt e.on q.2
def tempsOk (ops : Array Oper) (ms : List Nat) : Bool :=
  ops.toList.zipIdx.all fun p => match p.1.dst with
    | none => true
    | some d => ops.toList.zipIdx.all fun q => Nat.beq p.2 q.2 || !((match q.1.dst with | some d' => Nat.beq d' d | none => false) || looksB ops q.1 d) || cmpb ms p.2 q.2

def drawOk (ops : Array Oper) : Bool := depsOk ops && tempsOk ops (masks ops)

theorem mem_zipIdx {ops : Array Oper} {i : Nat} {o : Oper} (h : ops[i]? = some o) : (o, i) ∈ ops.toList.zipIdx := by
  rw [List.mem_zipIdx_iff_getElem?]; simpa using h

def mayWI (ri : RI) : Bool := match ri.op with | none => true | some op => mayW op

/-- The pairs that are not ordered and of which one may write. -/
def pairsOf (ms : List Nat) (l : List RI) : List (Nat × Nat) :=
  l.zipIdx.flatMap fun p => l.zipIdx.filterMap fun q => bif Nat.blt p.2 q.2 && !cmpb ms p.2 q.2 && (mayWI p.1 || mayWI q.1) then some (p.2, q.2) else none

def conf (a b : FP) : Bool :=
  (bif a.call then b.wl.isEmpty && b.kl.isEmpty else a.cl.all (fun x => !memB x b.wl) && a.ll.all (fun x => !memB x b.kl)) &&
  a.wl.all fun x => !(Nat.ble b.n0 x && Nat.blt x b.n1)

theorem conf_ok {a b : FP} (h : conf a b = true) : (∀ x, a.C x → ¬ b.W x) ∧ (∀ x, a.L x → ¬ b.K x) ∧ (∀ x, a.W x → ¬ (b.n0 ≤ x ∧ x < b.n1)) := by
  simp only [conf, Bool.and_eq_true] at h
  obtain ⟨h1, h3⟩ := h
  have hW : ∀ x, a.W x → ¬ (b.n0 ≤ x ∧ x < b.n1) := fun x hx => by
    have := List.all_eq_true.1 h3 x hx
    rintro ⟨q1, q2⟩
    have e1 : Nat.ble b.n0 x = true := by simpa using q1
    have e2 : Nat.blt x b.n1 = true := by simpa using q2
    simp only [e1, e2] at this
    cases this
  cases hc : a.call with
  | true =>
    simp only [hc, cond_true, Bool.and_eq_true, List.isEmpty_iff] at h1
    obtain ⟨d2, d3⟩ := h1
    refine ⟨fun x _ hw => ?_, fun x _ hk => ?_, hW⟩
    · simp only [FP.W, d2] at hw; cases hw
    · simp only [FP.K, d3] at hk; cases hk
  | false =>
    simp only [hc, cond_false, Bool.and_eq_true] at h1
    obtain ⟨d2, d3⟩ := h1
    refine ⟨fun x hx hw => ?_, fun x hx hk => ?_, hW⟩
    · rcases hx with hx | hx
      · rw [hc] at hx; cases hx
      · have := List.all_eq_true.1 d2 x hx
        rw [memB_iff.2 hw] at this; cases this
    · rcases hx with hx | hx
      · rw [hc] at hx; cases hx
      · have := List.all_eq_true.1 d3 x hx
        rw [memB_iff.2 hk] at this; cases this

def confs (ps : List FP) (prs : List (Nat × Nat)) : Bool := prs.all fun q => conf (ps.getD q.1 default) (ps.getD q.2 default) && conf (ps.getD q.2 default) (ps.getD q.1 default)

section
variable {E : Env} {ro : Option Nat} {call : CallF} {ops : Array Oper} {N : Nat}

theorem Big.regD (hmix : E.P.follows .mixedOrders = true) (hc : CallFOk E call) (hr : regOk N ops = true) {id : Nat} {l : List RI} (hl : l = ops.toList.map (compI E.P ops)) {prs : List (Nat × Nat)}
    (hdep : ∀ (i : Nat) (o : Oper) (e : Edge), ops[i]? = some o → e ∈ o.after → Region.binds .any e = true → e.on < i)
    (hct : ∀ (i j : Nat) (oi oj : Oper) (d : Nat), i ≠ j → ops[i]? = some oi → ops[j]? = some oj → oi.dst = some d → (oj.dst = some d ∨ looks ops oj d) → Bf ops i j ∨ Bf ops j i)
    (hprs : ∀ i j oi oj, ops[i]? = some oi → ops[j]? = some oj → i < j → cmpb (masks ops) i j = false → (mayWI (compI E.P ops oi) || mayWI (compI E.P ops oj)) = true → (i, j) ∈ prs)
    {s s' : Mc} {ps : List FP} (hf : Fresh s.h s.n) (h : evIs E.G call l s = some (s', ps)) (hcf : confs ps prs = true) :
    Big E ro N (.region id ops true) ⟨s.t, s.h, s.n⟩ .normal ⟨s'.t, s'.h, s'.n⟩ := by
  obtain ⟨hg, hs, hn⟩ := steps_ok (ro := ro) hc hf h
  have hend : seqS E.G call l s ops.size = s' := by
    have := (evIs_seq h).1
    rwa [show l.length = ops.size by rw [hl]; simp] at this
  have some_l : ∀ i o, ops[i]? = some o → l[i]? = some (compI E.P ops o) := fun i o ho => by rw [comp_get hl, ho]; rfl
  have none_l : ∀ i, ops[i]? = none → l[i]? = none := fun i ho => by rw [comp_get hl, ho]; rfl
  have def_W : ∀ b, ¬ (default : FP).W b := fun b h => by cases h
  have def_K : ∀ b, ¬ (default : FP).K b := fun b h => by cases h
  have hps : ∀ i o, ops[i]? = some o → ps.getD i default = (stepR E.G call l s i).2.2 := fun i o ho => by
    rw [List.getD_eq_getElem?_getD, (hs i _ (some_l i o ho)).2]; rfl
  let c : Canon E ro ops :=
    { T := fun i => (seqS E.G call l s i).t, H := fun i => (seqS E.G call l s i).h, n := fun i => (seqS E.G call l s i).n, r := fun i => (stepR E.G call l s i).1, ex := fun i => (stepR E.G call l s i).2.1
      C := fun i => (stepR E.G call l s i).2.2.C, L := fun i => (stepR E.G call l s i).2.2.L, W := fun i => (stepR E.G call l s i).2.2.W, Kl := fun i => (stepR E.G call l s i).2.2.K, B := Bf ops
      hT := fun i => by
        cases hi : ops[i]? with
        | none =>
          obtain ⟨e1, e2⟩ := hn i (none_l i hi)
          simp only [e1, Option.bind_none, putF]
        | some o =>
          have := (hs i _ (some_l i o hi)).1.T
          simpa [compI] using this
      hx := fun i hex => by
        cases hi : ops[i]? with
        | none =>
          obtain ⟨e1, e2⟩ := hn i (none_l i hi)
          simp only [e1, e2]; exact ⟨trivial, trivial, trivial⟩
        | some o => exact (hs i _ (some_l i o hi)).1.x hex
      hn := fun i => by
        cases hi : ops[i]? with
        | none => simp only [(hn i (none_l i hi)).1]; exact Nat.le_refl _
        | some o => exact (hs i _ (some_l i o hi)).1.g.le
      fresh := fun i b hb => (hg i).fresh b hb
      hW := fun i b hb hw => by
        cases hi : ops[i]? with
        | none => simp only [(hn i (none_l i hi)).1]
        | some o => exact (hs i _ (some_l i o hi)).1.W b hb hw
      hKl := fun i b hb hk o' ho' => by
        cases hi : ops[i]? with
        | none => simp only [(hn i (none_l i hi)).1]; exact ⟨o', ho', o'.like_refl⟩
        | some o => exact (hs i _ (some_l i o hi)).1.K b hb hk o' ho'
      hnew := fun i b h1 h2 => by
        cases hi : ops[i]? with
        | none => simp only [(hn i (none_l i hi)).1] at h2; exact absurd h1 h2
        | some o => exact (hs i _ (some_l i o hi)).1.g.new b h1 h2
      hWC := fun i b hw => by
        cases hi : ops[i]? with
        | none => simp only [(hn i (none_l i hi)).2] at hw; exact absurd hw (def_W b)
        | some o => exact (hs i _ (some_l i o hi)).1.WC b hw
      hg := fun i o ho => guard_spec (regOk_at hr ho).1 (hs i _ (some_l i o ho)).1.gd
      good := fun i o ho hex x a hW hG hrel hA hN => by
        have hst := (hs i _ (some_l i o ho)).1
        cases hop : resolveOp E.P o.op with
        | none =>
          obtain ⟨r, ex, p, e, _⟩ := (evIs_seq h).2.2.2 i _ (some_l i o ho)
          simp [evI, compI, hop] at e
        | some op => exact hst.good hex o ⟨op, hop, hop⟩ x a hW hG hrel hA hN
      hB := fun j i hb => by
        cases hb with
        | dir ho he hb => exact ⟨_, _, ho, he, hb, .inl rfl⟩
        | tr ho he hb h => exact ⟨_, _, ho, he, hb, .inr h⟩
      hdep := hdep
      hct := hct
      hcc := fun i j hij hei hej hun => by
        have exi : ∀ i, (stepR E.G call l s i).2.1 = true → ∃ o, ops[i]? = some o := fun i he => by
          cases hi : ops[i]? with
          | none => simp only [(hn i (none_l i hi)).2] at he; cases he
          | some o => exact ⟨o, rfl⟩
        obtain ⟨oi, hoi⟩ := exi i hei
        obtain ⟨oj, hoj⟩ := exi j hej
        have hsi := (hs i _ (some_l i oi hoi)).1
        have hsj := (hs j _ (some_l j oj hoj)).1
        have hcm : cmpb (masks ops) i j = false := by
          cases hh : cmpb (masks ops) i j with
          | false => rfl
          | true => exact absurd (cmpb_ok hh) hun
        have hcm' : cmpb (masks ops) j i = false := by rw [cmpb, Bool.or_comm]; exact hcm
        have key : conf (stepR E.G call l s i).2.2 (stepR E.G call l s j).2.2 = true ∨ (mayWI (compI E.P ops oi) = false ∧ mayWI (compI E.P ops oj) = false) := by
          have hin := hprs
          cases hm : mayWI (compI E.P ops oi) || mayWI (compI E.P ops oj) with
          | false => exact .inr (by simpa using hm)
          | true =>
            refine .inl ?_
            rcases Nat.lt_or_gt_of_ne hij with hlt | hlt
            · have := List.all_eq_true.1 hcf _ (hin i j oi oj hoi hoj hlt hcm hm)
              simp only [Bool.and_eq_true] at this
              rw [hps i oi hoi, hps j oj hoj] at this
              exact this.1
            · have := List.all_eq_true.1 hcf _ (hin j i oj oi hoj hoi hlt hcm' (by rw [Bool.or_comm]; exact hm))
              simp only [Bool.and_eq_true] at this
              rw [hps i oi hoi, hps j oj hoj] at this
              exact this.2
        have n0j := hsj.n0
        have n1j := hsj.n1
        rcases key with hk | ⟨m1, m2⟩
        · obtain ⟨q1, q2, q3⟩ := conf_ok hk
          refine ⟨q1, q2, fun b hw => ?_⟩
          have := q3 b hw
          rwa [n0j, n1j] at this
        · have nwI : ∀ (o : Oper), mayWI (compI E.P ops o) = false → (compI E.P ops o).op.all mayW = false := fun o hm => by
            simp only [mayWI] at hm
            cases ho : (compI E.P ops o).op with
            | none => rw [ho] at hm; cases hm
            | some op => rw [ho] at hm; simpa using hm
          obtain ⟨w1, w2⟩ := hsi.nw (nwI _ m1)
          obtain ⟨v1, v2⟩ := hsj.nw (nwI _ m2)
          refine ⟨fun b _ hw => ?_, fun b _ hk => ?_, fun b hw => ?_⟩
          · simp only [FP.W, v1] at hw; cases hw
          · simp only [FP.K, v2] at hk; cases hk
          · simp only [FP.W, w1] at hw; cases hw }
  have := Big.region_draw (id := id) (N := N) c hmix (regOk_dst hr)
  simp only [c, seqS_get0, hend] at this
  exact this

end
end Go.Abs

namespace Go.Abs
open Go

section
variable {R : Type} (d : R)

/-! Numbers -/
noncomputable def natF (n : Nat) (k : Nat → R) : R := Nat.rec (motive := fun _ => R) (k 0) (fun m _ => k (Nat.succ m)) n
theorem natF_eq (n : Nat) (k : Nat → R) : natF n k = k n := by cases n <;> rfl
noncomputable def intF (n : Int) (k : Int → R) : R := Int.rec (motive := fun _ => R) (fun m => natF m fun m => k (.ofNat m)) (fun m => natF m fun m => k (.negSucc m)) n
theorem intF_eq (n : Int) (k : Int → R) : intF n k = k n := by cases n <;> simp [intF, natF_eq]
noncomputable def boolF (b : Bool) (k : Bool → R) : R := Bool.rec (motive := fun _ => R) (k false) (k true) b
theorem boolF_eq (b : Bool) (k : Bool → R) : boolF b k = k b := by cases b <;> rfl

/-! Lists -/
theorem ble0 (n : Nat) : Nat.ble 0 n = true := by cases n <;> rfl
theorem bleD (a b : Nat) : Nat.ble a b = decide (a ≤ b) := by
  by_cases h : a ≤ b
  · rw [decide_eq_true h]; exact (by simpa using h)
  · rw [decide_eq_false h]
    cases hb : Nat.ble a b with
    | false => rfl
    | true => exact absurd (by simpa using hb) h
noncomputable def nthF {α : Type} (d : R) (k : α → R) (l : List α) : Nat → R :=
  List.rec (motive := fun _ => Nat → R) (fun _ => d) (fun a _ ih i => Nat.rec (motive := fun _ => R) (k a) (fun j _ => ih j) i) l
theorem nthF_eq {α : Type} (k : α → R) : ∀ (l : List α) (i : Nat), nthF d k l i = match l[i]? with | some a => k a | none => d
  | [], i => by simp [nthF]
  | a :: l, 0 => rfl
  | a :: l, i + 1 => by
    show nthF d k l i = _
    rw [nthF_eq k l i]; rfl

/-- The first n, forced. -/
noncomputable def takeF {α : Type} (d : R) (n : Nat) : List α → (List α → R) → R :=
  Nat.rec (motive := fun _ => List α → (List α → R) → R) (fun _ k => k []) (fun _ ih l k => List.rec (motive := fun _ => R) d (fun a l' _ => ih l' fun r => k (a :: r)) l) n
theorem takeF_eq {α : Type} : ∀ (n : Nat) (l : List α) (k : List α → R), takeF d n l k = bif Nat.ble n l.length then k (l.take n) else d
  | 0, l, k => by rw [ble0]; rfl
  | n + 1, [], k => rfl
  | n + 1, a :: l, k => by
    show takeF d n l (fun r => k (a :: r)) = _
    rw [takeF_eq n l fun r => k (a :: r)]; rfl
noncomputable def dropF {α : Type} (d : R) (n : Nat) : List α → (List α → R) → R :=
  Nat.rec (motive := fun _ => List α → (List α → R) → R) (fun l k => k l) (fun _ ih l k => List.rec (motive := fun _ => R) d (fun _ l' _ => ih l' k) l) n
theorem dropF_eq {α : Type} : ∀ (n : Nat) (l : List α) (k : List α → R), dropF d n l k = bif Nat.ble n l.length then k (l.drop n) else d
  | 0, l, k => by rw [ble0]; rfl
  | n + 1, [], k => rfl
  | n + 1, a :: l, k => by
    show dropF d n l k = _
    rw [dropF_eq n l k]; rfl

noncomputable def segF {α : Type} (d : R) (o n : Nat) (l : List α) (k : List α → R) : R := dropF d o l fun l => takeF d n l k
theorem segF_eq {α : Type} (o n : Nat) (l : List α) (k : List α → R) : segF d o n l k = bif Nat.ble (o + n) l.length then k (seg l o n) else d := by
  simp only [segF, dropF_eq, takeF_eq, seg, List.length_drop, bleD]
  by_cases h : o + n ≤ l.length
  · have h1 : o ≤ l.length := by omega
    have h2 : n ≤ l.length - o := by omega
    simp [h, h1, h2]
  · by_cases h1 : o ≤ l.length
    · have h2 : ¬ n ≤ l.length - o := by omega
      simp [h, h1, h2]
    · simp [h, h1]

/-- xs, laid over the list from its beginning. -/
noncomputable def overF {α : Type} (d : R) (xs : List α) : List α → (List α → R) → R :=
  List.rec (motive := fun _ => List α → (List α → R) → R) (fun l k => k l) (fun x _ ih l k => List.rec (motive := fun _ => R) d (fun _ l' _ => ih l' fun r => k (x :: r)) l) xs
theorem overF_eq {α : Type} : ∀ (xs l : List α) (k : List α → R), overF d xs l k = bif Nat.ble xs.length l.length then k (xs ++ l.drop xs.length) else d
  | [], l, k => by rw [List.length_nil, ble0]; rfl
  | x :: xs, [], k => rfl
  | x :: xs, a :: l, k => by
    show overF d xs l (fun r => k (x :: r)) = _
    rw [overF_eq xs l fun r => k (x :: r)]; rfl
noncomputable def layF {α : Type} (d : R) (o : Nat) (xs : List α) : List α → (List α → R) → R :=
  Nat.rec (motive := fun _ => List α → (List α → R) → R) (overF d xs) (fun _ ih l k => List.rec (motive := fun _ => R) d (fun a l' _ => ih l' fun r => k (a :: r)) l) o
theorem layF_eq {α : Type} : ∀ (o : Nat) (xs l : List α) (k : List α → R), layF d o xs l k = bif Nat.ble (o + xs.length) l.length then k (lay l o xs) else d
  | 0, xs, l, k => by
    show overF d xs l k = _
    rw [overF_eq, Nat.zero_add]; simp [lay]
  | o + 1, xs, [], k => by
    have : Nat.ble (o + 1 + xs.length) 0 = false := by rw [bleD]; simp
    show d = _
    rw [List.length_nil, this]; rfl
  | o + 1, xs, a :: l, k => by
    show layF d o xs l (fun r => k (a :: r)) = _
    rw [layF_eq o xs l fun r => k (a :: r)]
    have e : Nat.ble (o + 1 + xs.length) (l.length + 1) = Nat.ble (o + xs.length) l.length := by
      rw [show o + 1 + xs.length = (o + xs.length) + 1 by omega]; rfl
    simp only [List.length_cons, e]
    cases Nat.ble (o + xs.length) l.length with
    | true => simp only [cond_true]; simp [lay, show o + 1 + xs.length = (o + xs.length) + 1 by omega]
    | false => rfl

end
end Go.Abs

namespace Go.Abs
open Go

/-! A region that draws its order: what is to be checked, in a form that is reckoned fast -/
noncomputable def tb (m i : Nat) : Bool := Nat.beq (Nat.mod (Nat.shiftRight m i) 2) 1
theorem beqB' (a b : Nat) : Nat.beq a b = decide (a = b) := by
  by_cases h : a = b
  · subst h; simp
  · rw [decide_eq_false h]
    cases hb : Nat.beq a b with
    | false => rfl
    | true => exact absurd (Nat.eq_of_beq_eq_true hb) h
theorem tb_eq (m i : Nat) : tb m i = m.testBit i := by
  have e1 : Nat.mod (Nat.shiftRight m i) 2 = m / 2 ^ i % 2 := by
    show (m >>> i) % 2 = _
    rw [Nat.shiftRight_eq_div_pow]
  rw [tb, e1, Nat.testBit_eq_decide_div_mod_eq, beqB']
section
variable {R : Type} (d : R)

noncomputable def maskF (acc : List Nat) (l : List Edge) : Nat → (Nat → R) → R :=
  List.rec (motive := fun _ => Nat → (Nat → R) → R) (fun s k => k s)
    (fun e _ ih s k => Bool.rec (motive := fun _ => R) (ih s k) (nthF (natF (Nat.lor (Nat.lor s (Nat.pow 2 e.on)) 0) fun s' => ih s' k) (fun a => natF (Nat.lor (Nat.lor s (Nat.pow 2 e.on)) a) fun s' => ih s' k) acc e.on) (Region.binds .any e)) l
theorem maskF_eq (acc : List Nat) : ∀ (l : List Edge) (s : Nat) (k : Nat → R), maskF acc l s k = k (maskOf acc l s)
  | [], s, k => rfl
  | e :: l, s, k => by
    show Bool.rec (motive := fun _ => R) (maskF acc l s k) (nthF (natF (Nat.lor (Nat.lor s (Nat.pow 2 e.on)) 0) fun s' => maskF acc l s' k) (fun a => natF (Nat.lor (Nat.lor s (Nat.pow 2 e.on)) a) fun s' => maskF acc l s' k) acc e.on) (Region.binds .any e) = _
    have hs : maskOf acc (e :: l) s = maskOf acc l (bif Region.binds .any e then s ||| 2 ^ e.on ||| acc.getD e.on 0 else s) := rfl
    rw [hs]
    cases Region.binds .any e with
    | false => exact maskF_eq acc l s k
    | true =>
      simp only [nthF_eq, natF_eq, cond_true]
      cases h : acc[e.on]? with
      | none =>
        dsimp only
        rw [maskF_eq acc l]
        have : acc.getD e.on 0 = 0 := by simp [List.getD_eq_getElem?_getD, h]
        rw [this]; rfl
      | some a =>
        dsimp only
        rw [maskF_eq acc l]
        have : acc.getD e.on 0 = a := by simp [List.getD_eq_getElem?_getD, h]
        rw [this]; rfl

noncomputable def snocF {α : Type} (m : α) (l : List α) : (List α → R) → R :=
  List.rec (motive := fun _ => (List α → R) → R) (fun k => k [m]) (fun a _ ih k => ih fun r => k (a :: r)) l
theorem snocF_eq {α : Type} (m : α) : ∀ (l : List α) (k : List α → R), snocF m l k = k (l ++ [m])
  | [], k => rfl
  | a :: l, k => by
    show snocF m l (fun r => k (a :: r)) = _
    rw [snocF_eq m l]; rfl

noncomputable def masksF (l : List Oper) : List Nat → (List Nat → R) → R :=
  List.rec (motive := fun _ => List Nat → (List Nat → R) → R) (fun acc k => k acc) (fun o _ ih acc k => maskF acc o.after.toList 0 fun m => snocF m acc fun acc' => ih acc' k) l
theorem masksF_eq : ∀ (l : List Oper) (acc : List Nat) (k : List Nat → R), masksF l acc k = k (mkMasks acc l)
  | [], acc, k => rfl
  | o :: l, acc, k => by
    show maskF acc o.after.toList 0 (fun m => snocF m acc fun acc' => masksF l acc' k) = _
    rw [maskF_eq, snocF_eq, masksF_eq l]; rfl
end

theorem maskOf_mono {acc : List Nat} {j : Nat} : ∀ {l : List Edge} {s : Nat}, s.testBit j = true → (maskOf acc l s).testBit j = true
  | [], s, h => h
  | e :: l, s, h => by
    have hs : maskOf acc (e :: l) s = maskOf acc l (bif Region.binds .any e then s ||| 2 ^ e.on ||| acc.getD e.on 0 else s) := rfl
    rw [hs]
    refine maskOf_mono ?_
    cases Region.binds .any e with
    | false => exact h
    | true => simp [h]
theorem maskOf_on {acc : List Nat} : ∀ {l : List Edge} {s : Nat} {e : Edge}, e ∈ l → Region.binds .any e = true → (maskOf acc l s).testBit e.on = true
  | e0 :: l, s, e, hm, hb => by
    have hs : maskOf acc (e0 :: l) s = maskOf acc l (bif Region.binds .any e0 then s ||| 2 ^ e0.on ||| acc.getD e0.on 0 else s) := rfl
    rw [hs]
    rcases List.mem_cons.1 hm with rfl | hm
    · refine maskOf_mono ?_
      rw [hb]; simp
    · exact maskOf_on hm hb

theorem mkMasks_len : ∀ {l : List Oper} {acc : List Nat}, (mkMasks acc l).length = acc.length + l.length
  | [], acc => rfl
  | o :: l, acc => by simp only [mkMasks, mkMasks_len (l := l), List.length_append, List.length_cons, List.length_nil]; omega
theorem mkMasks_keep : ∀ {l : List Oper} {acc : List Nat} {i : Nat}, i < acc.length → (mkMasks acc l)[i]? = acc[i]?
  | [], acc, i, h => rfl
  | o :: l, acc, i, h => by
    simp only [mkMasks]
    rw [mkMasks_keep (by simp; omega), List.getElem?_append_left h]
theorem mkMasks_at {l : List Oper} : ∀ {acc : List Nat} {i : Nat} {o : Oper}, l[i]? = some o → ∃ acc', (mkMasks acc l)[acc.length + i]? = some (maskOf acc' o.after.toList 0) := by
  induction l with
  | nil => intro acc i o h; simp at h
  | cons o0 l ih =>
    intro acc i o h
    cases i with
    | zero =>
      simp only [List.getElem?_cons_zero, Option.some.injEq] at h
      subst h
      refine ⟨acc, ?_⟩
      show (mkMasks (acc ++ [maskOf acc o0.after.toList 0]) l)[acc.length + 0]? = _
      rw [mkMasks_keep (by simp)]; simp
    | succ i =>
      have h' : l[i]? = some o := by simpa using h
      obtain ⟨acc', h'⟩ := ih (acc := acc ++ [maskOf acc o0.after.toList 0]) (i := i) h'
      refine ⟨acc', ?_⟩
      show (mkMasks (acc ++ [maskOf acc o0.after.toList 0]) l)[acc.length + (i + 1)]? = _
      rw [← h']; congr 1; simp; omega

/-- Each mask speaks of earlier operations alone. -/
noncomputable def lowF (ms : List Nat) : Nat → Bool :=
  List.rec (motive := fun _ => Nat → Bool) (fun _ => true) (fun m _ ih i => Bool.rec (motive := fun _ => Bool) false (ih (Nat.succ i)) (Nat.blt m (Nat.pow 2 i))) ms
theorem lowF_ok : ∀ {ms : List Nat} {i0 : Nat}, lowF ms i0 = true → ∀ i m, ms[i]? = some m → m < 2 ^ (i0 + i)
  | [], i0, h, i, m, hm => by simp at hm
  | a :: ms, i0, h, i, m, hm => by
    have h' : Bool.rec (motive := fun _ => Bool) false (lowF ms (Nat.succ i0)) (Nat.blt a (Nat.pow 2 i0)) = true := h
    cases hb : Nat.blt a (Nat.pow 2 i0) with
    | false => rw [hb] at h'; cases h'
    | true =>
      rw [hb] at h'
      cases i with
      | zero =>
        simp only [List.getElem?_cons_zero, Option.some.injEq] at hm
        subst hm
        exact Nat.le_of_ble_eq_true hb
      | succ i =>
        have := lowF_ok (ms := ms) (i0 := Nat.succ i0) h' i m (by simpa using hm)
        rwa [show Nat.succ i0 + i = i0 + (i + 1) by omega] at this

/-- The temporaries that an operation looks at or writes. -/
def opndBit (m : Nat) (x : Operand) : Nat := match x with | .tmp t => m ||| 2 ^ t | _ => m
def lookMask (ops : Array Oper) (o : Oper) : Nat :=
  let m := o.op.operands.toList.foldl opndBit 0
  let m := match o.guard with | none => m | some (j, _) => match (ops[j]?).bind (·.dst) with | some t => m ||| 2 ^ t | none => m
  match o.dst with | some t => m ||| 2 ^ t | none => m
theorem fold_mono {j : Nat} : ∀ {l : List Operand} {s : Nat}, s.testBit j = true → (l.foldl opndBit s).testBit j = true
  | [], s, h => h
  | x :: l, s, h => by
    refine fold_mono (l := l) ?_
    cases x <;> simp [opndBit, h]
theorem fold_on {t : Nat} : ∀ {l : List Operand} {s : Nat}, Operand.tmp t ∈ l → (l.foldl opndBit s).testBit t = true
  | x :: l, s, h => by
    rcases List.mem_cons.1 h with rfl | h
    · exact fold_mono (l := l) (by simp [opndBit])
    · exact fold_on (l := l) h
theorem lookMask_ok {ops : Array Oper} {o : Oper} {d : Nat} (h : o.dst = some d ∨ looks ops o d) : (lookMask ops o).testBit d = true := by
  have step : ∀ (m : Nat), m.testBit d = true → (match o.dst with | some t => m ||| 2 ^ t | none => m : Nat).testBit d = true := fun m hm => by
    cases o.dst <;> simp [hm]
  rcases h with h | h
  · simp only [lookMask, h]; simp
  · refine step _ ?_
    rcases h with h | ⟨j, w, hg, hd⟩
    · have h1 : (o.op.operands.toList.foldl opndBit 0).testBit d = true := fold_on (Array.mem_def.1 h)
      generalize o.op.operands.toList.foldl opndBit 0 = m at h1
      cases o.guard with
      | none => exact h1
      | some g =>
        obtain ⟨j, w⟩ := g
        dsimp only
        cases (ops[j]?).bind (·.dst) <;> simp [h1]
    · simp only [hg, hd]; simp

noncomputable def looksF {R : Type} (ops : Array Oper) (l : List Oper) : (List Nat → R) → R :=
  List.rec (motive := fun _ => (List Nat → R) → R) (fun k => k []) (fun o _ ih k => natF (lookMask ops o) fun m => ih fun r => k (m :: r)) l
theorem looksF_eq {R : Type} (ops : Array Oper) : ∀ (l : List Oper) (k : List Nat → R), looksF ops l k = k (l.map (lookMask ops))
  | [], k => rfl
  | o :: l, k => by
    show natF (lookMask ops o) (fun m => looksF ops l fun r => k (m :: r)) = _
    rw [natF_eq, looksF_eq ops l]; rfl

/-- Operation i writes d: whoever looks at d stands before it or after it. -/
noncomputable def chkQ (i d mi : Nat) (lms : List Nat) : List Nat → Nat → Bool :=
  List.rec (motive := fun _ => List Nat → Nat → Bool) (fun _ _ => true) (fun lm _ ih ms j => List.rec (motive := fun _ => Bool) false (fun mj r _ =>
    Bool.rec (motive := fun _ => Bool) (ih r (Nat.succ j)) (Bool.rec (motive := fun _ => Bool) (Bool.rec (motive := fun _ => Bool) (Bool.rec (motive := fun _ => Bool) false (ih r (Nat.succ j)) (Nat.beq i j)) (ih r (Nat.succ j)) (tb mi j)) (ih r (Nat.succ j)) (tb mj i)) (tb lm d)) ms) lms
theorem chkQ_ok {i d mi : Nat} : ∀ {lms ms : List Nat} {j0 : Nat}, chkQ i d mi lms ms j0 = true → ∀ j lm, lms[j]? = some lm → lm.testBit d = true → i ≠ j0 + j → ∃ mj, ms[j]? = some mj ∧ (mj.testBit i = true ∨ mi.testBit (j0 + j) = true)
  | [], ms, j0, h, j, lm, hl, _, _ => by simp at hl
  | lm0 :: lms, [], j0, h, j, lm, hl, _, _ => by cases h
  | lm0 :: lms, mj :: ms, j0, h, j, lm, hl, hd, hne => by
    have h' : Bool.rec (motive := fun _ => Bool) (chkQ i d mi lms ms (Nat.succ j0)) (Bool.rec (motive := fun _ => Bool) (Bool.rec (motive := fun _ => Bool) (Bool.rec (motive := fun _ => Bool) false (chkQ i d mi lms ms (Nat.succ j0)) (Nat.beq i j0)) (chkQ i d mi lms ms (Nat.succ j0)) (tb mi j0)) (chkQ i d mi lms ms (Nat.succ j0)) (tb mj i)) (tb lm0 d) = true := h
    have rest : chkQ i d mi lms ms (Nat.succ j0) = true := by
      revert h'
      cases tb lm0 d <;> cases tb mj i <;> cases tb mi j0 <;> cases Nat.beq i j0 <;> simp
    cases j with
    | zero =>
      simp only [List.getElem?_cons_zero, Option.some.injEq] at hl
      subst hl
      refine ⟨mj, rfl, ?_⟩
      cases h1 : mj.testBit i with
      | true => exact .inl rfl
      | false =>
        cases h2 : mi.testBit j0 with
        | true => exact .inr rfl
        | false =>
          exfalso
          have : Nat.beq i j0 = false := by
            cases hb : Nat.beq i j0 with
            | false => rfl
            | true => exact absurd (Nat.eq_of_beq_eq_true hb) (by simpa using hne)
          simp only [tb_eq, hd, h1, h2, this] at h'
          cases h'
    | succ j =>
      obtain ⟨m, e1, e2⟩ := chkQ_ok (lms := lms) (ms := ms) (j0 := Nat.succ j0) rest j lm (by simpa using hl) hd (by omega)
      refine ⟨m, by simpa using e1, ?_⟩
      rwa [show Nat.succ j0 + j = j0 + (j + 1) by omega] at e2

noncomputable def chkP (lms ms0 : List Nat) (l : List Oper) : List Nat → Nat → Bool :=
  List.rec (motive := fun _ => List Nat → Nat → Bool) (fun _ _ => true) (fun o _ ih ms i => List.rec (motive := fun _ => Bool) false (fun mi r _ =>
    Option.rec (motive := fun _ => Bool) (ih r (Nat.succ i)) (fun d => Bool.rec (motive := fun _ => Bool) false (ih r (Nat.succ i)) (chkQ i d mi lms ms0 0)) o.dst) ms) l
theorem chkP_ok {lms ms0 : List Nat} : ∀ {l : List Oper} {ms : List Nat} {i0 : Nat}, chkP lms ms0 l ms i0 = true → ∀ i o d, l[i]? = some o → o.dst = some d → ∃ mi, ms[i]? = some mi ∧ chkQ (i0 + i) d mi lms ms0 0 = true
  | [], ms, i0, h, i, o, d, hl, _ => by simp at hl
  | o0 :: l, [], i0, h, i, o, d, hl, _ => by cases h
  | o0 :: l, m :: ms, i0, h, i, o, d, hl, hd => by
    have h' : Option.rec (motive := fun _ => Bool) (chkP lms ms0 l ms (Nat.succ i0)) (fun d => Bool.rec (motive := fun _ => Bool) false (chkP lms ms0 l ms (Nat.succ i0)) (chkQ i0 d m lms ms0 0)) o0.dst = true := h
    cases i with
    | zero =>
      simp only [List.getElem?_cons_zero, Option.some.injEq] at hl
      subst hl
      rw [hd] at h'
      dsimp only at h'
      refine ⟨m, rfl, ?_⟩
      rw [Nat.add_zero]
      cases hq : chkQ i0 d m lms ms0 0 with
      | true => rfl
      | false => rw [hq] at h'; cases h'
    | succ i =>
      have rest : chkP lms ms0 l ms (Nat.succ i0) = true := by
        cases hd0 : o0.dst with
        | none => rw [hd0] at h'; exact h'
        | some d0 =>
          rw [hd0] at h'
          dsimp only at h'
          cases hq : chkQ i0 d0 m lms ms0 0 with
          | true => rw [hq] at h'; exact h'
          | false => rw [hq] at h'; cases h'
      obtain ⟨mi, e1, e2⟩ := chkP_ok (l := l) (ms := ms) (i0 := Nat.succ i0) rest i o d (by simpa using hl) hd
      exact ⟨mi, by simpa using e1, by rwa [show Nat.succ i0 + i = i0 + (i + 1) by omega] at e2⟩

/-- The pairs that are not ordered and of which one may write. -/
noncomputable def bitsOf (m j : Nat) (n : Nat) : List (Nat × Nat) :=
  Nat.rec (motive := fun _ => List (Nat × Nat)) [] (fun i ih => Bool.rec (motive := fun _ => List (Nat × Nat)) ih ((i, j) :: ih) (tb m i)) n
theorem bitsOf_mem {m j : Nat} : ∀ {n i : Nat}, i < n → m.testBit i = true → (i, j) ∈ bitsOf m j n
  | n + 1, i, hi, h => by
    show (i, j) ∈ Bool.rec (motive := fun _ => List (Nat × Nat)) (bitsOf m j n) ((n, j) :: bitsOf m j n) (tb m n)
    by_cases e : i = n
    · subst e; rw [tb_eq, h]; exact List.mem_cons_self ..
    · have := bitsOf_mem (m := m) (j := j) (n := n) (i := i) (by omega) h
      cases tb m n with
      | false => exact this
      | true => exact List.mem_cons_of_mem _ this

noncomputable def wmask (l : List RI) : Nat → Nat :=
  List.rec (motive := fun _ => Nat → Nat) (fun _ => 0) (fun ri _ ih i => Bool.rec (motive := fun _ => Nat) (ih (Nat.succ i)) (Nat.lor (Nat.pow 2 i) (ih (Nat.succ i))) (mayWI ri)) l
theorem wmask_cons (r0 : RI) (l : List RI) (i0 : Nat) : wmask (r0 :: l) i0 = Bool.rec (motive := fun _ => Nat) (wmask l (Nat.succ i0)) (2 ^ i0 ||| wmask l (Nat.succ i0)) (mayWI r0) := rfl
theorem wmask_ok {l : List RI} : ∀ {i0 i : Nat} {ri : RI}, l[i]? = some ri → mayWI ri = true → (wmask l i0).testBit (i0 + i) = true := by
  induction l with
  | nil => intro i0 i ri h; simp at h
  | cons r0 l ih =>
    intro i0 i ri h hm
    rw [wmask_cons]
    cases i with
    | zero =>
      simp only [List.getElem?_cons_zero, Option.some.injEq] at h
      subst h
      rw [hm]
      simp
    | succ i =>
      have h' : l[i]? = some ri := by simpa using h
      have ih := ih (i0 := Nat.succ i0) (i := i) h' hm
      rw [show Nat.succ i0 + i = i0 + (i + 1) by omega] at ih
      cases mayWI r0 with
      | false => exact ih
      | true => simp [ih]

/-- Those before j that are not ordered against it. -/
noncomputable def freeM (mj j : Nat) (w : Bool) (W : Nat) : Nat :=
  Bool.rec (motive := fun _ => Nat) (Nat.land (Nat.xor (Nat.land mj (Nat.sub (Nat.pow 2 j) 1)) (Nat.sub (Nat.pow 2 j) 1)) W) (Nat.xor (Nat.land mj (Nat.sub (Nat.pow 2 j) 1)) (Nat.sub (Nat.pow 2 j) 1)) w
theorem freeM_ok {mj j i W : Nat} {w : Bool} (hi : i < j) (hm : mj.testBit i = false) (hw : w = true ∨ W.testBit i = true) : (freeM mj j w W).testBit i = true := by
  have h0 : ((mj &&& (2 ^ j - 1)) ^^^ (2 ^ j - 1)).testBit i = true := by
    simp [Nat.testBit_and, Nat.testBit_xor, Nat.testBit_two_pow_sub_one, hm, hi]
  cases w with
  | true => exact h0
  | false =>
    have hW := hw.resolve_left (by simp)
    show (((mj &&& (2 ^ j - 1)) ^^^ (2 ^ j - 1)) &&& W).testBit i = true
    rw [Nat.testBit_and, h0, hW]; rfl

noncomputable def prsF (W : Nat) (l : List RI) : List Nat → Nat → List (Nat × Nat) :=
  List.rec (motive := fun _ => List Nat → Nat → List (Nat × Nat)) (fun _ _ => []) (fun ri _ ih ms j => List.rec (motive := fun _ => List (Nat × Nat)) [] (fun mj r _ =>
    Bool.rec (motive := fun _ => List (Nat × Nat)) (List.append (bitsOf (freeM mj j (mayWI ri) W) j j) (ih r (Nat.succ j))) (ih r (Nat.succ j)) (Nat.beq (freeM mj j (mayWI ri) W) 0)) ms) l
theorem prsF_cons (W : Nat) (r0 : RI) (l : List RI) (m0 : Nat) (ms : List Nat) (j0 : Nat) : prsF W (r0 :: l) (m0 :: ms) j0 = Bool.rec (motive := fun _ => List (Nat × Nat)) (List.append (bitsOf (freeM m0 j0 (mayWI r0) W) j0 j0) (prsF W l ms (Nat.succ j0))) (prsF W l ms (Nat.succ j0)) (Nat.beq (freeM m0 j0 (mayWI r0) W) 0) := rfl
theorem prsF_mem {W : Nat} {l : List RI} : ∀ {ms : List Nat} {j0 j i : Nat} {ri : RI} {mj : Nat}, l.length ≤ ms.length → l[j]? = some ri → ms[j]? = some mj → i < j0 + j → mj.testBit i = false → (mayWI ri = true ∨ W.testBit i = true) → (i, j0 + j) ∈ prsF W l ms j0 := by
  induction l with
  | nil => intro ms j0 j i ri mj hlen hl; simp at hl
  | cons r0 l ih =>
    intro ms j0 j i ri mj hlen hl hm hi hb hw
    cases ms with
    | nil => simp at hlen
    | cons m0 ms =>
      rw [prsF_cons]
      cases j with
      | zero =>
        simp only [List.getElem?_cons_zero, Option.some.injEq] at hl hm
        subst hl; subst hm
        have hf := freeM_ok (j := j0) (W := W) (w := mayWI r0) (by simpa using hi) hb hw
        have hne : Nat.beq (freeM m0 j0 (mayWI r0) W) 0 = false := by
          cases hz : Nat.beq (freeM m0 j0 (mayWI r0) W) 0 with
          | false => rfl
          | true => rw [Nat.eq_of_beq_eq_true hz] at hf; simp at hf
        rw [hne]
        exact List.mem_append_left _ (bitsOf_mem (by simpa using hi) hf)
      | succ j =>
        have hl' : l[j]? = some ri := by simpa using hl
        have hm' : ms[j]? = some mj := by simpa using hm
        have hlen' : l.length ≤ ms.length := by simpa using hlen
        have := ih (ms := ms) (j0 := Nat.succ j0) (j := j) (i := i) hlen' hl' hm' (by omega) hb hw
        rw [show Nat.succ j0 + j = j0 + (j + 1) by omega] at this
        cases Nat.beq (freeM m0 j0 (mayWI r0) W) 0 with
        | true => exact this
        | false => exact List.mem_append_right _ this

/-- The checks. -/
noncomputable def drawF (ops : Array Oper) (ms lms : List Nat) : Bool := Bool.rec (motive := fun _ => Bool) false (chkP lms ms ops.toList ms 0) (lowF ms 0)

section
variable {ops : Array Oper}

theorem masks_len : (masks ops).length = ops.size := by simp [masks, mkMasks_len]

theorem drawF_ok (h : drawF ops (masks ops) (ops.toList.map (lookMask ops)) = true) :
    (∀ (i : Nat) (o : Oper) (e : Edge), ops[i]? = some o → e ∈ o.after → Region.binds .any e = true → e.on < i) ∧
    (∀ (i j : Nat) (oi oj : Oper) (d : Nat), i ≠ j → ops[i]? = some oi → ops[j]? = some oj → oi.dst = some d → (oj.dst = some d ∨ looks ops oj d) → Bf ops i j ∨ Bf ops j i) := by
  have h1 : lowF (masks ops) 0 = true := by
    cases hl : lowF (masks ops) 0 with
    | true => rfl
    | false => simp only [drawF, hl] at h; cases h
  have h2 : chkP (ops.toList.map (lookMask ops)) (masks ops) ops.toList (masks ops) 0 = true := by simpa only [drawF, h1] using h
  refine ⟨fun i o e ho he hb => ?_, fun i j oi oj d hij hi hj hdi hdj => ?_⟩
  · obtain ⟨acc', hm⟩ := mkMasks_at (acc := []) (l := ops.toList) (i := i) (o := o) (by simpa using ho)
    simp only [List.length_nil, Nat.zero_add] at hm
    have hlt := lowF_ok h1 i _ hm
    have hbit := maskOf_on (acc := acc') (s := 0) (Array.mem_def.1 he) hb
    refine Classical.byContradiction fun hge => ?_
    have : (maskOf acc' o.after.toList 0).testBit e.on = false := Nat.testBit_lt_two_pow (Nat.lt_of_lt_of_le hlt (Nat.pow_le_pow_right (by omega) (by omega)))
    rw [this] at hbit; cases hbit
  · obtain ⟨mi, e1, e2⟩ := chkP_ok h2 i oi d (by simpa using hi) hdi
    have hlm : (ops.toList.map (lookMask ops))[j]? = some (lookMask ops oj) := by
      rw [List.getElem?_map]
      have : ops.toList[j]? = some oj := by simpa using hj
      rw [this]; rfl
    obtain ⟨mj, e3, e4⟩ := chkQ_ok e2 j (lookMask ops oj) hlm (lookMask_ok hdj) (by omega)
    rw [Nat.zero_add] at e4
    rcases e4 with e4 | e4
    · refine .inl (masks_ok ?_)
      rw [List.getD_eq_getElem?_getD, e3]; simpa using e4
    · refine .inr (masks_ok ?_)
      rw [List.getD_eq_getElem?_getD, e1]; simpa using e4

theorem prsF_ok {P : Program} {l : List RI} (hl : l = ops.toList.map (compI P ops)) : ∀ i j oi oj, ops[i]? = some oi → ops[j]? = some oj → i < j → cmpb (masks ops) i j = false → (mayWI (compI P ops oi) || mayWI (compI P ops oj)) = true →
    (i, j) ∈ prsF (wmask l 0) l (masks ops) 0 := by
  intro i j oi oj hi hj hij hc hw
  have hli : l[i]? = some (compI P ops oi) := by
    rw [hl, List.getElem?_map]
    have : ops.toList[i]? = some oi := by simpa using hi
    rw [this]; rfl
  have hlj : l[j]? = some (compI P ops oj) := by
    rw [hl, List.getElem?_map]
    have : ops.toList[j]? = some oj := by simpa using hj
    rw [this]; rfl
  have hjl : j < (masks ops).length := by rw [masks_len]; exact (Array.getElem?_eq_some_iff.1 hj).1
  have hmj : (masks ops)[j]? = some (masks ops)[j] := List.getElem?_eq_getElem hjl
  simp only [cmpb, Bool.or_eq_false_iff] at hc
  have hb : ((masks ops)[j]).testBit i = false := by
    have := hc.1
    rwa [List.getD_eq_getElem?_getD, hmj] at this
  have := prsF_mem (W := wmask l 0) (l := l) (ms := masks ops) (j0 := 0) (j := j) (i := i) (by rw [masks_len, hl]; simp) hlj hmj (by omega) hb (by
    simp only [Bool.or_eq_true] at hw
    rcases hw with hw | hw
    · right
      have := wmask_ok (i0 := 0) hli hw
      rwa [Nat.zero_add] at this
    · exact .inl hw)
  rwa [Nat.zero_add] at this
end
end Go.Abs
