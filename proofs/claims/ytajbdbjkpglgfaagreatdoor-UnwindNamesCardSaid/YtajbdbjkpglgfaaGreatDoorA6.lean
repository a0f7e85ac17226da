/- What is proved here serves the claim's last text: the same interpreter in a form that the kernel reckons fast, and facts over written values. It speaks of any program of the model. -/
import Derived.Test.YtajbdbjkpglgfaaGreatDoorA5
set_option linter.unusedSectionVars false
set_option linter.unusedSimpArgs false
set_option linter.unusedVariables false
namespace Go.Abs
open Go

/-! ### The same reckoning, in a form that the kernel does fast: with continuations, by bare recursors -/
inductive Pth where
  | here
  | l (p : Pth)
  | r (p : Pth)

def pathOf : Nat → Nat → Pth
  | 0, _ => .here
  | f + 1, i => match i with
    | 0 => .here
    | j + 1 => bif Nat.beq (j % 2) 0 then .l (pathOf f (j / 2)) else .r (pathOf f (j / 2))
def pth (i : Nat) : Pth := pathOf (Nat.log2 (i + 1) + 1) i

section
variable {α R : Type}

noncomputable def getF (d : R) (k : α → R) (p : Pth) : PT α → R :=
  Pth.rec (motive := fun _ => PT α → R)
    (fun T => PT.rec (motive := fun _ => R) d (fun v _ _ _ _ => Option.rec (motive := fun _ => R) d k v) T)
    (fun _ ih T => PT.rec (motive := fun _ => R) d (fun _ l _ _ _ => ih l) T)
    (fun _ ih T => PT.rec (motive := fun _ => R) d (fun _ _ r _ _ => ih r) T) p

noncomputable def setF (v : Option α) (p : Pth) : PT α → (PT α → R) → R :=
  Pth.rec (motive := fun _ => PT α → (PT α → R) → R)
    (fun T k => PT.rec (motive := fun _ => R) (k (.node v .leaf .leaf)) (fun _ l r _ _ => k (.node v l r)) T)
    (fun _ ih T k => PT.rec (motive := fun _ => R) (ih .leaf (fun l => k (.node none l .leaf))) (fun u l r _ _ => ih l (fun l => k (.node u l r))) T)
    (fun _ ih T k => PT.rec (motive := fun _ => R) (ih .leaf (fun r => k (.node none .leaf r))) (fun u l r _ _ => ih r (fun r => k (.node u l r))) T) p

theorem getF_path {d : R} {k : α → R} : ∀ (f i : Nat) (T : PT α), i + 1 < 2 ^ f → getF d k (pathOf f i) T = match T.get i with | some v => k v | none => d
  | 0, i, T, h => by simp at h
  | f + 1, 0, T, h => by
    cases T with
    | leaf => rfl
    | node v l r => cases v <;> rfl
  | f + 1, j + 1, T, h => by
    have h' : j / 2 + 1 < 2 ^ f := by rw [Nat.pow_succ] at h; omega
    cases T with
    | leaf =>
      simp only [pathOf, PT.get]
      cases Nat.beq (j % 2) 0 <;> rfl
    | node v l r =>
      simp only [pathOf, PT.get]
      cases Nat.beq (j % 2) 0 with
      | true => exact getF_path f (j / 2) l h'
      | false => exact getF_path f (j / 2) r h'

theorem setF_path {v : Option α} : ∀ (f g i : Nat) (T : PT α) (k : PT α → R), i + 1 < 2 ^ f → i < g → setF v (pathOf f i) T k = k (PT.set g T i v)
  | 0, g, i, T, k, h, _ => by simp at h
  | f + 1, 0, i, T, k, h, hg => by omega
  | f + 1, g + 1, 0, T, k, h, _ => by cases T <;> rfl
  | f + 1, g + 1, j + 1, T, k, h, hg => by
    have h' : j / 2 + 1 < 2 ^ f := by rw [Nat.pow_succ] at h; omega
    have hg' : j / 2 < g := by omega
    cases T with
    | leaf =>
      simp only [pathOf, PT.set]
      cases Nat.beq (j % 2) 0 with
      | true => exact setF_path f g (j / 2) .leaf (fun l => k (.node none l .leaf)) h' hg'
      | false => exact setF_path f g (j / 2) .leaf (fun r => k (.node none .leaf r)) h' hg'
    | node u l r =>
      simp only [pathOf, PT.set]
      cases Nat.beq (j % 2) 0 with
      | true => exact setF_path f g (j / 2) l (fun l => k (.node u l r)) h' hg'
      | false => exact setF_path f g (j / 2) r (fun r => k (.node u l r)) h' hg'

theorem getF_eq {d : R} {k : α → R} (i : Nat) (T : PT α) : getF d k (pth i) T = match T.get i with | some v => k v | none => d :=
  getF_path _ _ _ Nat.lt_log2_self
theorem setF_eq {v : Option α} (i : Nat) (T : PT α) (k : PT α → R) : setF v (pth i) T k = k (T.put i v) :=
  setF_path _ _ _ _ _ Nat.lt_log2_self (Nat.lt_succ_self i)
end

abbrev KS (R : Type) := PT AV → PT AObj → Nat → List Nat → List Nat → R
abbrev CallK (R : Type) := AV → List AV → PT AObj → Nat → (AV → PT AObj → Nat → List Nat → List Nat → R) → R
abbrev KF (R : Type) := FP → KS R

section
variable {R : Type} (G : Nat → AV) (d : R)

/-- An operand's value. -/
noncomputable def rhoK (o : Operand) (T : PT AV) (k : AV → R) : R :=
  Operand.rec (motive := fun _ => R) (fun t => getF (k .any) k (pth t) T) (fun v => k (AV.ofConst v)) (fun g => k (G g)) (fun f => k (.fn (.func f) [] [])) o
theorem rhoK_eq (o : Operand) (T : PT AV) (k : AV → R) : rhoK G o T k = k (rho G T o) := by
  cases o with
  | tmp t => simp only [rhoK, rho]; rw [getF_eq]; cases T.get t <;> rfl
  | _ => rfl

noncomputable def rhoF (T : PT AV) (o : Operand) : AV := rhoK G o T id
theorem rhoF_eq (T : PT AV) : rhoF G T = rho G T := by funext o; exact rhoK_eq G o T id
noncomputable def getHF (H : PT AObj) (b : Nat) : Option AObj := getF none some (pth b) H
theorem getHF_eq (H : PT AObj) : getHF H = H.get := by funext b; simp only [getHF, getF_eq]; cases H.get b <;> rfl

end
end Go.Abs

namespace Go.Abs
open Go

section
variable {R : Type} (G : Nat → AV) (d : R)

/-! One operation -/
abbrev OpK (R : Type) := PT AV → PT AObj → Nat → (AV → HA → R) → R
def optS (x : Option (AV × HA)) (kr : AV → HA → R) : R := match x with | some p => kr p.1 p.2 | none => d
theorem optS_bif (b : Bool) (x : AV) (h : HA) (kr : AV → HA → R) : optS d (bif b then some (x, h) else none) kr = bif b then kr x h else d := by cases b <;> rfl
def opSpec (op : ROp) : OpK R := fun T H n kr => optS d (evOp (rho G T) H.get n op) kr

def HA.forceK {β : Type} (ha : HA) (k : HA → β) : β :=
  match ha with
  | .keep => k .keep
  | .put b o => o.forceK fun o => k (.put b o)
  | .new o => o.forceK fun o => k (.new o)
  | .app b o => o.forceK fun o => k (.app b o)
theorem HA.forceK_eq {β : Type} (ha : HA) (k : HA → β) : ha.forceK k = k ha := by cases ha <;> simp [HA.forceK, AObj.forceK_eq]

noncomputable def mixF (x : Option (AV × HA)) (kr : AV → HA → R) : R := Option.rec (motive := fun _ => R) d (fun p => p.1.forceK fun r => p.2.forceK fun ha => kr r ha) x
theorem mixF_eq (x : Option (AV × HA)) (kr : AV → HA → R) : mixF d x kr = optS d x kr := by cases x <;> simp [mixF, optS, AV.forceK_eq, HA.forceK_eq]

noncomputable def movK (x : Operand) : OpK R := fun T _ _ kr => rhoK G x T fun v => kr v .keep

noncomputable def asBoolF (k : Bool → R) (a : AV) : R :=
  AV.casesOn (motive_1 := fun _ => R) a d (fun b => k b) (fun _ _ => d) (fun _ => d) d (fun _ _ => d) (fun _ _ _ => d) (fun _ _ => d) d (fun _ _ => d) (fun _ _ _ => d) d (fun _ => d) (fun _ _ _ => d) d (fun _ => d) (fun _ => d) (fun _ => d) (fun _ => d) (fun _ _ => d) (fun _ _ _ _ => d)
noncomputable def asIntF (k : IntKind → Int → R) (a : AV) : R :=
  AV.casesOn (motive_1 := fun _ => R) a d (fun _ => d) (fun i n => k i n) (fun _ => d) d (fun _ _ => d) (fun _ _ _ => d) (fun _ _ => d) d (fun _ _ => d) (fun _ _ _ => d) d (fun _ => d) (fun _ _ _ => d) d (fun _ => d) (fun _ => d) (fun _ => d) (fun _ => d) (fun _ _ => d) (fun _ _ _ _ => d)
noncomputable def asNatF (k : Nat → R) (a : AV) : R := asIntF d (fun _ n => Int.rec (motive := fun _ => R) (fun m => k m) (fun _ => d) n) a
theorem asNatF_eq (k : Nat → R) (a : AV) : asNatF d k a = match natOf a with | some n => k n | none => d := by
  cases a <;> try rfl
  rename_i i n
  cases n <;> rfl

noncomputable def pickK (c a b : Operand) : OpK R := fun T _ _ kr => rhoK G c T fun cv => asBoolF d (fun t => Bool.rec (motive := fun _ => R) (rhoK G b T fun v => kr v .keep) (rhoK G a T fun v => kr v .keep) t) cv

noncomputable def zeroK (v : AV) : OpK R := fun _ _ n kr => kr (.ptr n 0) (.new (.var v.cells))
noncomputable def boxK (x : Operand) : OpK R := fun T _ n kr => rhoK G x T fun v => Bool.rec (motive := fun _ => R) d (kr (.ptr n 0) (.new (.var v.cells))) v.flat

noncomputable def asVarF (k : List AV → R) (o : AObj) : R := AObj.rec (motive := fun _ => R) (fun cs => k cs) (fun _ _ => d) (fun _ _ => d) (fun _ => d) (fun _ _ _ _ _ _ => d) (fun _ _ => d) o
noncomputable def asRowF (k : Nat → List AV → R) (o : AObj) : R := AObj.rec (motive := fun _ => R) (fun _ => d) (fun sz es => k sz es) (fun _ _ => d) (fun _ => d) (fun _ _ _ _ _ _ => d) (fun _ _ => d) o

/-- What lies behind a pointer. -/
noncomputable def behindF (H : PT AObj) (k : List AV → Nat → R) (a : AV) : R :=
  AV.casesOn (motive_1 := fun _ => R) a d (fun _ => d) (fun _ _ => d) (fun _ => d) d
    (fun b off => getF d (asVarF d fun cs => k cs off) (pth b) H)
    (fun b i off => getF d (asRowF d fun _ es => nthF (k AV.any.cells off) (fun e => k e.cells off) es i) (pth b) H)
    (fun cs off => k cs off) d (fun _ _ => d) (fun _ _ _ => d) d (fun _ => d) (fun _ _ _ => d) d (fun _ => d) (fun _ => d) (fun _ => d) (fun _ => d) (fun _ _ => d) (fun _ _ _ _ => d)
theorem behindF_eq (H : PT AObj) (k : List AV → Nat → R) (a : AV) : behindF d H k a = match behindB H.get a with | some (cs, off) => k cs off | none => d := by
  cases a <;> try rfl
  · rename_i b off
    show getF d (asVarF d fun cs => k cs off) (pth b) H = _
    rw [getF_eq]; simp only [behindB]
    cases H.get b with
    | none => rfl
    | some o => cases o <;> rfl
  · rename_i b i off
    show getF d (asRowF d fun _ es => nthF (k AV.any.cells off) (fun e => k e.cells off) es i) (pth b) H = _
    rw [getF_eq]; simp only [behindB]
    cases H.get b with
    | none => rfl
    | some o =>
      cases o <;> try rfl
      rename_i sz es
      show nthF (k AV.any.cells off) (fun e => k e.cells off) es i = _
      rw [nthF_eq]
      simp only [List.getD_eq_getElem?_getD]
      cases es[i]? <;> rfl

noncomputable def ldF (agg : Bool) (m : Nat) (cs : List AV) (off : Nat) (kr : AV → HA → R) : R :=
  Bool.rec (motive := fun _ => R)
    (Bool.rec (motive := fun _ => R) (segF d off m cs fun l => kr (l.getD 0 .any) .keep) (nthF d (fun v => kr v .keep) cs off) (Nat.beq m 1))
    (segF d off m cs fun l => kr (.agg l) .keep) agg
theorem ldF_eq (agg : Bool) (m : Nat) (cs : List AV) (off : Nat) (kr : AV → HA → R) : ldF d agg m cs off kr = bif Nat.ble (off + m) cs.length then kr (ld agg (seg cs off m)) .keep else d := by
  cases agg with
  | true => simp only [ldF, segF_eq]; rfl
  | false =>
    simp only [ldF]
    cases hm : Nat.beq m 1 with
    | false => simp only [segF_eq]; rfl
    | true =>
      obtain rfl := Nat.eq_of_beq_eq_true hm
      simp only [nthF_eq, bleD]
      by_cases h : off + 1 ≤ cs.length
      · have h' : off < cs.length := h
        simp only [decide_eq_true h, cond_true]
        rw [List.getElem?_eq_getElem h']
        simp [ld, seg, List.getD_eq_getElem?_getD, List.getElem?_take, List.getElem?_drop, h']
      · have h' : cs.length ≤ off := by omega
        simp only [decide_eq_false h, cond_false]
        rw [List.getElem?_eq_none h']

noncomputable def loadK (agg : Bool) (m : Nat) (p : Operand) : OpK R := fun T H _ kr => rhoK G p T fun a => behindF d H (fun cs off => ldF d agg m cs off kr) a

/-- One element of a row, laid over. -/
noncomputable def setNF (off : Nat) (vs : List AV) : List AV → Nat → (List AV → R) → R :=
  List.rec (motive := fun _ => Nat → (List AV → R) → R) (fun _ k => k []) (fun a l ih i k => Nat.rec (motive := fun _ => R) ((a.lay off vs).forceK fun a' => k (a' :: l)) (fun j _ => ih j fun r => k (a :: r)) i)
theorem setNF_eq (off : Nat) (vs : List AV) : ∀ (es : List AV) (i : Nat) (k : List AV → R), setNF off vs es i k = k (es.set i ((es.getD i .any).lay off vs))
  | [], i, k => by simp [setNF]
  | a :: es, 0, k => by
    show (a.lay off vs).forceK (fun a' => k (a' :: es)) = _
    rw [AV.forceK_eq]; rfl
  | a :: es, i + 1, k => by
    show setNF off vs es i (fun r => k (a :: r)) = _
    rw [setNF_eq off vs es i]; rfl

noncomputable def storeF (m : Nat) (H : PT AObj) (a : AV) (kr : AV → HA → R) (q : AV) : R :=
  AV.casesOn (motive_1 := fun _ => R) q d (fun _ => d) (fun _ _ => d) (fun _ => d) d
    (fun b off => getF d (asVarF d fun cs => layF d off a.cells cs fun cs' => kr .any (.put b (.var cs'))) (pth b) H)
    (fun b i off => getF d (asRowF d fun sz es => Bool.rec (motive := fun _ => R) d (setNF off a.cells es i fun es' => kr .any (.put b (.row sz es'))) (Nat.ble (off + m) sz)) (pth b) H)
    (fun _ _ => d) d (fun _ _ => d) (fun _ _ _ => d) d (fun _ => d) (fun _ _ _ => d) d (fun _ => d) (fun _ => d) (fun _ => d) (fun _ => d) (fun _ _ => d) (fun _ _ _ _ => d)
noncomputable def storeK (m : Nat) (p v : Operand) : OpK R := fun T H _ kr => rhoK G v T fun a => Bool.rec (motive := fun _ => R) d (rhoK G p T fun q => storeF d m H a kr q) (fitB a m)

/-- A pointer, moved. -/
noncomputable def addF (k : AV → R) (off : Nat) (H : PT AObj) (a : AV) : R :=
  AV.casesOn (motive_1 := fun _ => R) a d (fun _ => d) (fun _ _ => d) (fun _ => d) d
    (fun b o => getF d (asVarF d fun _ => Nat.rec (motive := fun _ => R) (k (.ptr b off)) (fun _ _ => natF (o + off) fun o' => k (.ptr b o')) o) (pth b) H)
    (fun b i o => getF d (asRowF d fun _ _ => Nat.rec (motive := fun _ => R) (k (.eptr b i off)) (fun _ _ => natF (o + off) fun o' => k (.eptr b i o')) o) (pth b) H)
    (fun cs o => natF (o + off) fun o' => k (.iptr cs o')) d (fun _ _ => d) (fun _ _ _ => d) d (fun _ => d) (fun _ _ _ => d) d (fun _ => d) (fun _ => d) (fun _ => d) (fun _ => d) (fun _ _ => d) (fun _ _ _ _ => d)
theorem addF_eq (k : AV → R) (off : Nat) (H : PT AObj) (a : AV) : addF d k off H a = bif livesB H.get a then k (a.addOff off) else d := by
  cases a <;> try rfl
  · rename_i b o
    show getF d (asVarF d fun _ => Nat.rec (motive := fun _ => R) (k (.ptr b off)) (fun _ _ => natF (o + off) fun o' => k (.ptr b o')) o) (pth b) H = _
    rw [getF_eq]; simp only [livesB]
    cases H.get b with
    | none => rfl
    | some ob =>
      cases ob <;> try rfl
      cases o with
      | zero => simp only [asVarF, AV.addOff, Nat.zero_add]; rfl
      | succ o => simp only [asVarF, natF_eq]; rfl
  · rename_i b i o
    show getF d (asRowF d fun _ _ => Nat.rec (motive := fun _ => R) (k (.eptr b i off)) (fun _ _ => natF (o + off) fun o' => k (.eptr b i o')) o) (pth b) H = _
    rw [getF_eq]; simp only [livesB]
    cases H.get b with
    | none => rfl
    | some ob =>
      cases ob <;> try rfl
      cases o with
      | zero => simp only [asRowF, AV.addOff, Nat.zero_add]; rfl
      | succ o => simp only [asRowF, natF_eq]; rfl
  · rename_i cs o
    show natF (o + off) (fun o' => k (.iptr cs o')) = _
    rw [natF_eq]; rfl

noncomputable def faddrK (off : Nat) (x : Operand) : OpK R := fun T H _ kr => rhoK G x T fun a => addF d (fun v => kr v .keep) off H a
noncomputable def iaddrAK (len sz : Nat) (x i : Operand) : OpK R := fun T H _ kr => rhoK G i T fun iv => asNatF d (fun j => rhoK G x T fun a => Bool.rec (motive := fun _ => R) d (natF (j * sz) fun o => addF d (fun v => kr v .keep) o H a) (Nat.blt j len)) iv

noncomputable def idxF (sz j : Nat) (H : PT AObj) (k : AV → R) (a : AV) : R :=
  AV.casesOn (motive_1 := fun _ => R) a d (fun _ => d) (fun _ _ => d) (fun _ => d) d (fun _ _ => d) (fun _ _ _ => d) (fun _ _ => d) d
    (fun sz' es => Bool.rec (motive := fun _ => R) d (nthF d (fun e => k (.iptr e.cells 0)) es j) (Nat.beq sz' sz))
    (fun b off n => Bool.rec (motive := fun _ => R) d (getF d (asRowF d fun sz' _ => Bool.rec (motive := fun _ => R) d (natF (off + j) fun o => k (.eptr b o 0)) (Nat.beq sz' sz)) (pth b) H) (Nat.blt j n))
    d (fun _ => d) (fun _ _ _ => d) d (fun _ => d) (fun _ => d) (fun _ => d) (fun _ => d) (fun _ _ => d) (fun _ _ _ _ => d)
theorem beqB (a b : Nat) : (a == b) = Nat.beq a b := by
  cases h : Nat.beq a b with
  | true => simpa using h
  | false =>
    have : a ≠ b := fun e => by subst e; rw [Nat.beq_refl] at h; cases h
    simpa using this
theorem bltD (a b : Nat) : Nat.blt a b = decide (a < b) := bleD _ _
theorem idxF_eq (sz j : Nat) (H : PT AObj) (k : AV → R) (a : AV) : idxF d sz j H k a = bif idxB H.get sz a j then k (idxAV H.get j a) else d := by
  cases a <;> try rfl
  · rename_i sz' es
    show Bool.rec (motive := fun _ => R) d (nthF d (fun e => k (.iptr e.cells 0)) es j) (Nat.beq sz' sz) = _
    simp only [idxB, beqB, bltD, nthF_eq]
    cases Nat.beq sz' sz with
    | false => rfl
    | true =>
      simp only [Bool.true_and]
      by_cases h : j < es.length
      · rw [List.getElem?_eq_getElem h, decide_eq_true h]
        simp [idxAV, List.getD_eq_getElem?_getD, h]
      · rw [List.getElem?_eq_none (by omega), decide_eq_false h]; rfl
  · rename_i b off n
    show Bool.rec (motive := fun _ => R) d (getF d (asRowF d fun sz' _ => Bool.rec (motive := fun _ => R) d (natF (off + j) fun o => k (.eptr b o 0)) (Nat.beq sz' sz)) (pth b) H) (Nat.blt j n) = _
    simp only [idxB, getF_eq, natF_eq, beqB]
    cases H.get b with
    | none => cases Nat.blt j n <;> rfl
    | some ob =>
      cases ob <;> try (cases Nat.blt j n <;> rfl)
      rename_i sz' es
      cases hb : Nat.blt j n <;> cases hz : Nat.beq sz' sz <;> simp [asRowF, hz, idxAV]

noncomputable def iaddrK (sz : Nat) (x i : Operand) : OpK R := fun T H _ kr => rhoK G i T fun iv => asNatF d (fun j => rhoK G x T fun a => idxF d sz j H (fun v => kr v .keep) a) iv

noncomputable def livesF (H : PT AObj) (k : R) (a : AV) : R :=
  AV.casesOn (motive_1 := fun _ => R) a d (fun _ => d) (fun _ _ => d) (fun _ => d) d
    (fun b _ => getF d (asVarF d fun _ => k) (pth b) H) (fun b _ _ => getF d (asRowF d fun _ _ => k) (pth b) H) (fun _ _ => k)
    d (fun _ _ => d) (fun _ _ _ => d) d (fun _ => d) (fun f _ _ => Fn.casesOn (motive := fun _ => R) f (fun _ => k) (fun _ => d) (fun _ _ => d) (fun _ _ _ _ => d) (fun _ => d) ) d (fun _ => d) (fun _ => d) (fun _ => d) (fun _ => d) (fun _ _ => d) (fun _ _ _ _ => d)

noncomputable def lenK (x : Operand) : OpK R := fun T H _ kr => rhoK G x T fun a =>
  AV.casesOn (motive_1 := fun _ => R) a d (fun _ => d) (fun _ _ => d) (fun _ => d) d (fun _ _ => d) (fun _ _ _ => d) (fun _ _ => d) (kr (.int .i64 (.ofNat 0)) .keep)
    (fun _ es => natF es.length fun m => kr (.int .i64 (.ofNat m)) .keep)
    (fun b _ m => getF d (asRowF d fun _ _ => kr (.int .i64 (.ofNat m)) .keep) (pth b) H)
    d (fun _ => d) (fun _ _ _ => d) d (fun _ => d) (fun _ => d) (fun _ => d) (fun _ => d) (fun _ _ => d) (fun _ _ _ _ => d)
noncomputable def extK (x : Operand) (i : Nat) : OpK R := fun T _ _ kr => rhoK G x T fun a =>
  AV.casesOn (motive_1 := fun _ => R) a d (fun _ => d) (fun _ _ => d) (fun _ => d) d (fun _ _ => d) (fun _ _ _ => d) (fun _ _ => d) d
    (fun _ _ => d) (fun _ _ _ => d) d (fun _ => d) (fun _ _ _ => d) d (fun _ => d) (fun vs => nthF d (fun v => kr v .keep) vs i) (fun _ => d) (fun _ => d) (fun _ _ => d) (fun _ _ _ _ => d)
noncomputable def fldK (agg : Bool) (off m : Nat) (x : Operand) : OpK R := fun T _ _ kr => rhoK G x T fun a =>
  AV.casesOn (motive_1 := fun _ => R) a d (fun _ => d) (fun _ _ => d) (fun _ => d) d (fun _ _ => d) (fun _ _ _ => d) (fun _ _ => d) d
    (fun _ _ => d) (fun _ _ _ => d) d (fun _ => d) (fun _ _ _ => d) d (fun cs => ldF d agg m cs off kr) (fun _ => d) (fun _ => d) (fun _ => d) (fun _ _ => d) (fun _ _ _ _ => d)
noncomputable def nilcK (x : Operand) : OpK R := fun T H _ kr => rhoK G x T fun a => livesF d H (kr a .keep) a

end
end Go.Abs

namespace Go.Abs
open Go

/-! Operations on two numbers -/
noncomputable def ikNo (k : IntKind) : Nat := IntKind.rec (motive := fun _ => Nat) 0 1 2 3 4 5 6 7 k
theorem ikNo_eq (a b : IntKind) : Nat.beq (ikNo a) (ikNo b) = decide (a = b) := by cases a <;> cases b <;> rfl

section
variable {R : Type} (G : Nat → AV) (d : R)

/-- A small number needs no wrapping. -/
noncomputable def wrapF (i : IntKind) (n : Int) (k : AV → R) : R :=
  Int.rec (motive := fun _ => R) (fun m => Bool.rec (motive := fun _ => R) (intF (i.wrap n) fun n' => k (.int i n')) (natF m fun m' => k (.int i (.ofNat m'))) (Nat.ble m 127)) (fun _ => intF (i.wrap n) fun n' => k (.int i n')) n
theorem wrap_small (i : IntKind) (m : Nat) (h : m ≤ 127) : i.wrap (.ofNat m) = .ofNat m := by
  have e : (Int.ofNat m) = (m : Int) := rfl
  cases i <;> simp only [IntKind.wrap, IntKind.bits, IntKind.signed, e] <;> simp <;> omega
theorem wrapF_eq (i : IntKind) (n : Int) (k : AV → R) : wrapF i n k = k (.int i (i.wrap n)) := by
  cases n with
  | ofNat m =>
    simp only [wrapF, bleD, natF_eq, intF_eq]
    by_cases h : m ≤ 127
    · rw [decide_eq_true h]; simp only [wrap_small i m h]
    · rw [decide_eq_false h]
  | negSucc m => simp only [wrapF, intF_eq]

/-- Comparison. -/
noncomputable def ltF (a b : Int) (k : Bool → R) : R :=
  Int.rec (motive := fun _ => R) (fun m => Int.rec (motive := fun _ => R) (fun n => boolF (Nat.blt m n) k) (fun _ => k false) b) (fun m => Int.rec (motive := fun _ => R) (fun _ => k true) (fun n => boolF (Nat.blt n m) k) b) a
theorem ltF_eq (a b : Int) (k : Bool → R) : ltF a b k = k (decide (a < b)) := by
  cases a with
  | ofNat m => cases b with
    | ofNat n =>
      simp only [ltF, boolF_eq, bltD]
      congr 1
      exact decide_eq_decide.2 (by show m < n ↔ (m : Int) < (n : Int); omega)
    | negSucc n =>
      have : decide ((Int.ofNat m) < Int.negSucc n) = false := decide_eq_false (by show ¬ ((m : Int) < Int.negSucc n); rw [Int.negSucc_eq]; omega)
      simp only [ltF, this]
  | negSucc m => cases b with
    | ofNat n =>
      have : decide (Int.negSucc m < Int.ofNat n) = true := decide_eq_true (by show Int.negSucc m < (n : Int); rw [Int.negSucc_eq]; omega)
      simp only [ltF, this]
    | negSucc n =>
      simp only [ltF, boolF_eq, bltD]
      congr 1
      exact decide_eq_decide.2 (by rw [Int.negSucc_eq, Int.negSucc_eq]; omega)
noncomputable def eqF (a b : Int) (k : Bool → R) : R :=
  Int.rec (motive := fun _ => R) (fun m => Int.rec (motive := fun _ => R) (fun n => boolF (Nat.beq m n) k) (fun _ => k false) b) (fun m => Int.rec (motive := fun _ => R) (fun _ => k false) (fun n => boolF (Nat.beq m n) k) b) a
theorem eqF_eq (a b : Int) (k : Bool → R) : eqF a b k = k (a == b) := by
  have h : ∀ m n : Nat, Nat.beq m n = decide (m = n) := fun m n => by rw [← beqB]; rfl
  have hb : ∀ x y : Int, (x == y) = decide (x = y) := fun x y => rfl
  rw [hb]
  cases a with
  | ofNat m => cases b with
    | ofNat n =>
      simp only [eqF, boolF_eq, h]
      congr 1
      exact decide_eq_decide.2 (by show m = n ↔ (m : Int) = (n : Int); omega)
    | negSucc n =>
      have : decide ((Int.ofNat m) = Int.negSucc n) = false := decide_eq_false (by intro e; cases e)
      simp only [eqF, this]
  | negSucc m => cases b with
    | ofNat n =>
      have : decide (Int.negSucc m = Int.ofNat n) = false := decide_eq_false (by intro e; cases e)
      simp only [eqF, this]
    | negSucc n =>
      simp only [eqF, boolF_eq, h]
      congr 1
      exact decide_eq_decide.2 (by rw [Int.negSucc_eq, Int.negSucc_eq]; omega)

/-- Bits of numbers that are none below 0. -/
noncomputable def orF (i : IntKind) (a b : Int) (slow : R) (k : AV → R) : R :=
  IntKind.rec (motive := fun _ => R) slow slow slow slow slow slow slow
    (Int.rec (motive := fun _ => R) (fun m => Int.rec (motive := fun _ => R) (fun n => Bool.rec (motive := fun _ => R) slow (Bool.rec (motive := fun _ => R) slow (natF (Nat.lor m n) fun r => k (.int .u64 (.ofNat r))) (Nat.blt n 18446744073709551616)) (Nat.blt m 18446744073709551616)) (fun _ => slow) b) (fun _ => slow) a) i
noncomputable def andF (i : IntKind) (a b : Int) (slow : R) (k : AV → R) : R :=
  IntKind.rec (motive := fun _ => R) slow slow slow slow slow slow slow
    (Int.rec (motive := fun _ => R) (fun m => Int.rec (motive := fun _ => R) (fun n => Bool.rec (motive := fun _ => R) slow (Bool.rec (motive := fun _ => R) slow (natF (Nat.land m n) fun r => k (.int .u64 (.ofNat r))) (Nat.blt n 18446744073709551616)) (Nat.blt m 18446744073709551616)) (fun _ => slow) b) (fun _ => slow) a) i
noncomputable def andNotF (i : IntKind) (a b : Int) (slow : R) (k : AV → R) : R :=
  IntKind.rec (motive := fun _ => R) slow slow slow slow slow slow slow
    (Int.rec (motive := fun _ => R) (fun m => Int.rec (motive := fun _ => R) (fun n => Bool.rec (motive := fun _ => R) slow (Bool.rec (motive := fun _ => R) slow (natF (Nat.land m (Nat.xor n 18446744073709551615)) fun r => k (.int .u64 (.ofNat r))) (Nat.blt n 18446744073709551616)) (Nat.blt m 18446744073709551616)) (fun _ => slow) b) (fun _ => slow) a) i

theorem ofInt64 {m : Nat} (h : m < 18446744073709551616) : (BitVec.ofInt IntKind.u64.bits (Int.ofNat m)) = BitVec.ofNat 64 m := by
  apply BitVec.eq_of_toNat_eq
  show (BitVec.ofInt 64 (m : Int)).toNat = (BitVec.ofNat 64 m).toNat
  simp [BitVec.toNat_ofInt]
theorem wrapU {x : Nat} (h : x < 18446744073709551616) : IntKind.u64.wrap (x : Int) = Int.ofNat x := by
  have e : IntKind.u64.wrap (x : Int) = (x : Int) % 18446744073709551616 := by simp [IntKind.wrap, IntKind.bits, IntKind.signed]
  rw [e]
  show (x : Int) % _ = (x : Int)
  omega

theorem orF_eq (i : IntKind) (a b : Int) (slow : R) (k : AV → R) (hs : slow = k (intV .or i a b)) : orF i a b slow k = k (intV .or i a b) := by
  cases i <;> try exact hs
  cases a <;> cases b <;> try exact hs
  rename_i m n
  simp only [orF, bltD, natF_eq]
  by_cases h1 : m < 18446744073709551616 <;> by_cases h2 : n < 18446744073709551616 <;> simp only [h1, h2, decide_true, decide_false] <;> try exact hs
  simp only [intV]
  congr 2
  rw [ofInt64 h1, ofInt64 h2]
  have e : (BitVec.ofNat 64 m ||| BitVec.ofNat 64 n).toNat = Nat.lor m n := by
    rw [BitVec.toNat_or, BitVec.toNat_ofNat, BitVec.toNat_ofNat, Nat.mod_eq_of_lt h1, Nat.mod_eq_of_lt h2]; rfl
  have hlt : Nat.lor m n < 18446744073709551616 := by rw [← e]; exact BitVec.isLt _
  show _ = IntKind.u64.wrap (((BitVec.ofNat 64 m ||| BitVec.ofNat 64 n).toNat : Nat) : Int)
  rw [e, wrapU hlt]
theorem andF_eq (i : IntKind) (a b : Int) (slow : R) (k : AV → R) (hs : slow = k (intV .and i a b)) : andF i a b slow k = k (intV .and i a b) := by
  cases i <;> try exact hs
  cases a <;> cases b <;> try exact hs
  rename_i m n
  simp only [andF, bltD, natF_eq]
  by_cases h1 : m < 18446744073709551616 <;> by_cases h2 : n < 18446744073709551616 <;> simp only [h1, h2, decide_true, decide_false] <;> try exact hs
  simp only [intV]
  congr 2
  rw [ofInt64 h1, ofInt64 h2]
  have e : (BitVec.ofNat 64 m &&& BitVec.ofNat 64 n).toNat = Nat.land m n := by
    rw [BitVec.toNat_and, BitVec.toNat_ofNat, BitVec.toNat_ofNat, Nat.mod_eq_of_lt h1, Nat.mod_eq_of_lt h2]; rfl
  have hlt : Nat.land m n < 18446744073709551616 := by rw [← e]; exact BitVec.isLt _
  show _ = IntKind.u64.wrap (((BitVec.ofNat 64 m &&& BitVec.ofNat 64 n).toNat : Nat) : Int)
  rw [e, wrapU hlt]
theorem andNotF_eq (i : IntKind) (a b : Int) (slow : R) (k : AV → R) (hs : slow = k (intV .andNot i a b)) : andNotF i a b slow k = k (intV .andNot i a b) := by
  cases i <;> try exact hs
  cases a <;> cases b <;> try exact hs
  rename_i m n
  simp only [andNotF, bltD, natF_eq]
  by_cases h1 : m < 18446744073709551616 <;> by_cases h2 : n < 18446744073709551616 <;> simp only [h1, h2, decide_true, decide_false] <;> try exact hs
  simp only [intV]
  congr 2
  rw [ofInt64 h1, ofInt64 h2]
  have e0 : ~~~(BitVec.ofNat 64 n) = BitVec.ofNat 64 n ^^^ BitVec.allOnes 64 := by rw [BitVec.xor_allOnes]
  have e : (BitVec.ofNat 64 m &&& ~~~(BitVec.ofNat 64 n)).toNat = Nat.land m (Nat.xor n 18446744073709551615) := by
    rw [e0, BitVec.toNat_and, BitVec.toNat_xor, BitVec.toNat_ofNat, BitVec.toNat_ofNat, BitVec.toNat_allOnes, Nat.mod_eq_of_lt h1, Nat.mod_eq_of_lt h2]; rfl
  have hlt : Nat.land m (Nat.xor n 18446744073709551615) < 18446744073709551616 := by rw [← e]; exact BitVec.isLt _
  show _ = IntKind.u64.wrap (((BitVec.ofNat 64 m &&& ~~~(BitVec.ofNat 64 n)).toNat : Nat) : Int)
  rw [e, wrapU hlt]

/-- On numbers of one kind. -/
noncomputable def intOpF (op : BinOp) (i : IntKind) (a b : Int) (slow : R) (k : AV → R) : R :=
  BinOp.rec (motive := fun _ => R)
    (wrapF i (a + b) k) (wrapF i (a - b) k) (wrapF i (a * b) k) slow slow
    (andF i a b slow k) (orF i a b slow k) slow slow slow (andNotF i a b slow k)
    (eqF a b fun t => k (.bool t)) (eqF a b fun t => boolF (!t) fun t => k (.bool t)) (ltF a b fun t => k (.bool t)) (ltF b a fun t => boolF (!t) fun t => k (.bool t)) (ltF b a fun t => k (.bool t)) (ltF a b fun t => boolF (!t) fun t => k (.bool t)) op

theorem intOpF_eq (op : BinOp) (i : IntKind) (a b : Int) (slow : R) (k : AV → R) (hs : slow = k (intV op i a b) ∨ (op = .shl ∨ op = .shr ∨ op = .quo ∨ op = .rem)) : intOpF op i a b slow k = k (intV op i a b) ∨ (intOpF op i a b slow k = slow ∧ (op = .shl ∨ op = .shr ∨ op = .quo ∨ op = .rem)) := by
  have nlt : ∀ a b : Int, (!decide (b < a)) = decide (a ≤ b) := fun a b => by
    by_cases h : b < a
    · have : ¬ a ≤ b := by omega
      simp [h, this]
    · have : a ≤ b := by omega
      simp [h, this]
  cases op
  case add => exact .inl (wrapF_eq ..)
  case sub => exact .inl (wrapF_eq ..)
  case mul => exact .inl (wrapF_eq ..)
  case quo => exact .inr ⟨rfl, by simp⟩
  case rem => exact .inr ⟨rfl, by simp⟩
  case and => exact .inl (andF_eq _ _ _ _ _ (hs.resolve_right (by simp)))
  case or => exact .inl (orF_eq _ _ _ _ _ (hs.resolve_right (by simp)))
  case xor => exact .inl (hs.resolve_right (by simp))
  case shl => exact .inr ⟨rfl, by simp⟩
  case shr => exact .inr ⟨rfl, by simp⟩
  case andNot => exact .inl (andNotF_eq _ _ _ _ _ (hs.resolve_right (by simp)))
  case eql => exact .inl (eqF_eq ..)
  case neq => exact .inl ((eqF_eq ..).trans (by rw [boolF_eq]; rfl))
  case lss => exact .inl (ltF_eq ..)
  case leq => exact .inl ((ltF_eq ..).trans (by rw [boolF_eq, nlt]; rfl))
  case gtr => exact .inl (ltF_eq ..)
  case geq => exact .inl ((ltF_eq ..).trans (by rw [boolF_eq, nlt]; rfl))

def eBin (dd : TypeDesc) (op : BinOp) (a b : AV) : Option (AV × HA) := bif binOkB dd op a b then some (binV op a b, .keep) else none

noncomputable def binF (dd : TypeDesc) (op : BinOp) (a b : AV) (kr : AV → HA → R) : R :=
  asIntF (mixF d (eBin dd op a b) kr) (fun i m => asIntF (mixF d (eBin dd op a b) kr) (fun j n =>
    Bool.rec (motive := fun _ => R) (mixF d (eBin dd op a b) kr) (intOpF op i m n (mixF d (eBin dd op a b) kr) fun v => kr v .keep) (Nat.beq (ikNo i) (ikNo j))) b) a

theorem binF_eq (dd : TypeDesc) (op : BinOp) (a b : AV) (kr : AV → HA → R) : binF d dd op a b kr = optS d (eBin dd op a b) kr := by
  refine Eq.trans ?_ (mixF_eq d (eBin dd op a b) kr)
  cases a <;> try rfl
  rename_i i m
  cases b <;> try rfl
  rename_i j n
  show Bool.rec (motive := fun _ => R) (mixF d (eBin dd op (.int i m) (.int j n)) kr) (intOpF op i m n (mixF d (eBin dd op (.int i m) (.int j n)) kr) fun v => kr v .keep) (Nat.beq (ikNo i) (ikNo j)) = _
  rw [ikNo_eq]
  by_cases h : i = j
  · subst h
    rw [decide_eq_true rfl]
    have hmix : (op = .shl ∨ op = .shr ∨ op = .quo ∨ op = .rem) ∨ mixF d (eBin dd op (.int i m) (.int i n)) kr = kr (intV op i m n) .keep := by
      cases op <;> first | (left; simp; done) | (right; simp [mixF_eq, optS, eBin, binOkB, binV])
    rcases intOpF_eq op i m n (mixF d (eBin dd op (.int i m) (.int i n)) kr) (fun v => kr v .keep) (hmix.symm) with h1 | ⟨h1, _⟩
    · show intOpF op i m n (mixF d (eBin dd op (.int i m) (.int i n)) kr) (fun v => kr v .keep) = _
      rcases hmix with h2 | h2
      · rcases h2 with rfl | rfl | rfl | rfl <;> rfl
      · rw [h1, h2]
    · exact h1
  · rw [decide_eq_false h]

noncomputable def binK (dd : TypeDesc) (op : BinOp) (x y : Operand) : OpK R := fun T _ _ kr => rhoK G x T fun a => rhoK G y T fun b => binF d dd op a b kr

/-! Operands, all of them -/
noncomputable def mapF (T : PT AV) (xs : List Operand) : (List AV → R) → R :=
  List.rec (motive := fun _ => (List AV → R) → R) (fun k => k []) (fun x _ ih k => rhoK G x T fun v => ih fun r => k (v :: r)) xs
theorem mapF_eq (T : PT AV) : ∀ (xs : List Operand) (k : List AV → R), mapF G T xs k = k (xs.map (rho G T))
  | [], k => rfl
  | x :: xs, k => by
    show rhoK G x T (fun v => mapF G T xs fun r => k (v :: r)) = _
    rw [rhoK_eq, mapF_eq T xs]; rfl

noncomputable def bsliceK (sz : Nat) (xs : List Operand) : OpK R := fun T _ n kr => mapF G T xs fun vs => Bool.rec (motive := fun _ => R) d (natF xs.length fun m => kr (.row n 0 m) (.new (.row sz vs))) (vs.all fun v => fitB v sz)

end
end Go.Abs

namespace Go.Abs
open Go

section
variable {R : Type} (G : Nat → AV) (d : R)

def eUn (op : UnOp) (a : AV) : Option (AV × HA) := bif unOkB op a then some (unV op a, .keep) else none
noncomputable def unK (op : UnOp) (x : Operand) : OpK R := fun T _ _ kr => rhoK G x T fun a =>
  UnOp.rec (motive := fun _ => R) (mixF d (eUn op a) kr) (mixF d (eUn op a) kr) (asBoolF (mixF d (eUn op a) kr) (fun b => boolF (!b) fun b => kr (.bool b) .keep) a) (mixF d (eUn op a) kr) op
noncomputable def convIK (i : IntKind) (x : Operand) : OpK R := fun T _ _ kr => rhoK G x T fun a => asIntF d (fun _ m => wrapF i m fun v => kr v .keep) a
noncomputable def asStrF (k : ByteArray → R) (a : AV) : R :=
  AV.casesOn (motive_1 := fun _ => R) a d (fun _ => d) (fun _ _ => d) (fun s => k s) d (fun _ _ => d) (fun _ _ _ => d) (fun _ _ => d) d (fun _ _ => d) (fun _ _ _ => d) d (fun _ => d) (fun _ _ _ => d) d (fun _ => d) (fun _ => d) (fun _ => d) (fun _ => d) (fun _ _ => d) (fun _ _ _ _ => d)
noncomputable def lenSK (x : Operand) : OpK R := fun T _ _ kr => rhoK G x T fun a => asStrF d (fun s => natF s.size fun m => kr (.int .i64 (.ofNat m)) .keep) a
noncomputable def mkfnK (f : Fn) (first cap : List Operand) : OpK R := fun T _ _ kr => mapF G T first fun l => mapF G T cap fun c => kr (.fn f l c) .keep
def eIdxS (j : Nat) (s : ByteArray) : Option (AV × HA) := bif Nat.blt j s.size then some (.int .u8 ((s.data.toList.getD j 0).toNat : Int), .keep) else none
noncomputable def idxSK (x i : Operand) : OpK R := fun T _ _ kr => rhoK G i T fun iv => asNatF d (fun j => rhoK G x T fun a => asStrF d (fun s => mixF d (eIdxS j s) kr) a) iv
noncomputable def asMapF (k : Bool → List (AV × AV) → R) (o : AObj) : R := AObj.rec (motive := fun _ => R) (fun _ => d) (fun _ _ => d) (fun fl es => k fl es) (fun _ => d) (fun _ _ _ _ _ _ => d) (fun _ _ => d) o
def eMapup (dd : TypeDesc) (b : Nat) (kv v : AV) (fl : Bool) (es : List (AV × AV)) : Option (AV × HA) := bif keyFits dd kv && keysB kv es then some (.any, .put b (.map fl (mput kv v es))) else none
noncomputable def mapupK (dd : TypeDesc) (m k v : Operand) : OpK R := fun T H _ kr => rhoK G m T fun a =>
  AV.casesOn (motive_1 := fun _ => R) a d (fun _ => d) (fun _ _ => d) (fun _ => d) d (fun _ _ => d) (fun _ _ _ => d) (fun _ _ => d) d (fun _ _ => d) (fun _ _ _ => d) d
    (fun b => getF d (asMapF d fun fl es => rhoK G k T fun kv => rhoK G v T fun vv => mixF d (eMapup dd b kv vv fl es) kr) (pth b) H) (fun _ _ _ => d) d (fun _ => d) (fun _ => d) (fun _ => d) (fun _ => d) (fun _ _ => d) (fun _ _ _ _ => d)
def eLook (dd : TypeDesc) (z : AV) (ok : Bool) (kv : AV) (es : List (AV × AV)) : Option (AV × HA) := bif keyFits dd kv && keysB kv es then some (lookV ok z (mget kv es), .keep) else none
noncomputable def lookK (dd : TypeDesc) (z : AV) (ok : Bool) (m k : Operand) : OpK R := fun T H _ kr => rhoK G m T fun a => rhoK G k T fun kv =>
  AV.casesOn (motive_1 := fun _ => R) a d (fun _ => d) (fun _ _ => d) (fun _ => d) d (fun _ _ => d) (fun _ _ _ => d) (fun _ _ => d) d (fun _ _ => d) (fun _ _ _ => d) (mixF d (eLook dd z ok kv []) kr)
    (fun b => getF d (asMapF d fun _ es => mixF d (eLook dd z ok kv es) kr) (pth b) H) (fun _ _ _ => d) d (fun _ => d) (fun _ => d) (fun _ => d) (fun _ => d) (fun _ _ => d) (fun _ _ _ _ => d)
def eApp (H : Nat → Option AObj) (n sz bytes : Nat) (s x : AV) : Option (AV × HA) := match baseB H sz s, contB H sz x with
  | some (ss, k), some xs => bif xs.all AV.flat && Nat.ble ((ss.length + xs.length) * bytes) 140737488355328 && Nat.ble (ss.length + xs.length) 140737488355328 then some (.row n 0 (ss.length + xs.length), .app k (.row sz (ss ++ xs))) else none
  | _, _ => none
noncomputable def appK (sz bytes : Nat) (s x : Operand) : OpK R := fun T H n kr => rhoK G s T fun sv => rhoK G x T fun xv => mixF d (eApp (getHF H) n sz bytes sv xv) kr
def eBuild (zs : List AV) (ps : List (Nat × Nat × Operand)) (ρ : Operand → AV) : Option (AV × HA) := bif ps.all (fun q => fitB (ρ q.2.2) q.2.1) then some (.agg (fillAV zs (ps.map fun q => (q.1, (ρ q.2.2).cells))), .keep) else none
noncomputable def buildK (zs : List AV) (ps : List (Nat × Nat × Operand)) : OpK R := fun T _ _ kr => mixF d (eBuild zs ps (rhoF G T)) kr
noncomputable def medK (op : ROp) : OpK R := fun T H n kr => mixF d (evOp (rhoF G T) (getHF H) n op) kr

inductive OpC (R : Type) where
  | mk (f : OpK R)

noncomputable def opC (op : ROp) : OpC R := match op with
  | .mov x => .mk (movK G x)
  | .pick c a b => .mk (pickK G d c a b)
  | .zero v => .mk (zeroK v)
  | .box x => .mk (boxK G d x)
  | .build zs ps => .mk (buildK G d zs ps)
  | .bslice sz xs => .mk (bsliceK G d sz xs)
  | .load agg m p => .mk (loadK G d agg m p)
  | .store m p v => .mk (storeK G d m p v)
  | .nilc x => .mk (nilcK G d x)
  | .bin dd op x y => .mk (binK G d dd op x y)
  | .un op x => .mk (unK G d op x)
  | .convI i x => .mk (convIK G d i x)
  | .mkfn f a b => .mk (mkfnK G f a b)
  | .faddr off x => .mk (faddrK G d off x)
  | .fld agg off m x => .mk (fldK G d agg off m x)
  | .iaddr sz x i => .mk (iaddrK G d sz x i)
  | .iaddrA len sz x i => .mk (iaddrAK G d len sz x i)
  | .idxS x i => .mk (idxSK G d x i)
  | .look dd z ok m k => .mk (lookK G d dd z ok m k)
  | .mapup dd m k v => .mk (mapupK G d dd m k v)
  | .ext x i => .mk (extK G d x i)
  | .len x => .mk (lenK G d x)
  | .lenS x => .mk (lenSK G d x)
  | .app sz bytes s x => .mk (appK G d sz bytes s x)
  | op => .mk (medK G d op)

theorem medK_eq (op : ROp) : medK G d op = opSpec G d op := by
  funext T H n kr
  simp only [medK, mixF_eq, opSpec, rhoF_eq, getHF_eq]

theorem opC_ok (op : ROp) : opC G d op = .mk (opSpec G d op) := by
  cases op <;> simp only [opC, medK_eq] <;> congr 1 <;> funext T H n kr
  case mov x => simp only [movK, rhoK_eq, opSpec, evOp]; rfl
  case pick c a b =>
    simp only [pickK, rhoK_eq, opSpec, evOp]
    cases rho G T c <;> try rfl
    rename_i t; cases t <;> rfl
  case box x =>
    simp only [boxK, rhoK_eq, opSpec, evOp]
    cases (rho G T x).flat <;> rfl
  case build zs ps => simp only [buildK, mixF_eq, rhoF_eq]; rfl
  case bslice sz xs =>
    simp only [bsliceK, mapF_eq, natF_eq, opSpec, evOp, List.all_map]
    have : (xs.all ((fun v => fitB v sz) ∘ rho G T)) = xs.all fun o => fitB (rho G T o) sz := rfl
    rw [this]
    cases xs.all fun o => fitB (rho G T o) sz <;> rfl
  case load agg m p =>
    simp only [loadK, rhoK_eq, behindF_eq, ldF_eq, opSpec, evOp]
    cases behindB H.get (rho G T p) with
    | none => rfl
    | some q => obtain ⟨cs, off⟩ := q; simp only [optS_bif]
  case store m p v =>
    simp only [storeK, rhoK_eq, opSpec, evOp]
    cases hfit : fitB (rho G T v) m with
    | false => rfl
    | true =>
      obtain ⟨f1, f2⟩ := fitB_ok hfit
      simp only [cond_true]
      generalize rho G T p = q
      cases q <;> try rfl
      · rename_i b off
        show getF d (asVarF d fun cs => layF d off (rho G T v).cells cs fun cs' => kr .any (.put b (.var cs'))) (pth b) H = _
        rw [getF_eq]
        dsimp only
        cases H.get b with
        | none => rfl
        | some ob =>
          cases ob <;> try rfl
          rename_i cs
          show layF d off (rho G T v).cells cs (fun cs' => kr .any (.put b (.var cs'))) = _
          rw [layF_eq, f2]; simp only [optS_bif]
      · rename_i b i off
        show getF d (asRowF d fun sz es => Bool.rec (motive := fun _ => R) d (setNF off (rho G T v).cells es i fun es' => kr .any (.put b (.row sz es'))) (Nat.ble (off + m) sz)) (pth b) H = _
        rw [getF_eq]
        dsimp only
        cases H.get b with
        | none => rfl
        | some ob =>
          cases ob <;> try rfl
          rename_i sz es
          show Bool.rec (motive := fun _ => R) d (setNF off (rho G T v).cells es i fun es' => kr .any (.put b (.row sz es'))) (Nat.ble (off + m) sz) = _
          simp only [setNF_eq, optS_bif]
          cases Nat.ble (off + m) sz <;> rfl
  case nilc x =>
    simp only [nilcK, rhoK_eq, opSpec, evOp]
    generalize rho G T x = a
    cases a <;> try rfl
    · rename_i b off
      show getF d (asVarF d fun _ => kr (.ptr b off) .keep) (pth b) H = _
      rw [getF_eq]; dsimp only; simp only [optS_bif, livesB]
      cases H.get b with
      | none => rfl
      | some ob => cases ob <;> rfl
    · rename_i b i off
      show getF d (asRowF d fun _ _ => kr (.eptr b i off) .keep) (pth b) H = _
      rw [getF_eq]; dsimp only; simp only [optS_bif, livesB]
      cases H.get b with
      | none => rfl
      | some ob => cases ob <;> rfl
    · rename_i f a b; cases f <;> rfl
  case bin dd op x y => simp only [binK, rhoK_eq, binF_eq]; rfl
  case un op x =>
    simp only [unK, rhoK_eq]
    have e : opSpec G d (.un op x) T H n kr = optS d (eUn op (rho G T x)) kr := rfl
    rw [e]
    refine Eq.trans ?_ (mixF_eq d (eUn op (rho G T x)) kr)
    cases op <;> try rfl
    generalize rho G T x = a
    cases a <;> try rfl
    rename_i b
    show boolF (!b) (fun b => kr (.bool b) .keep) = _
    rw [boolF_eq, mixF_eq]; rfl
  case convI i x =>
    simp only [convIK, rhoK_eq, opSpec, evOp]
    generalize rho G T x = a
    cases a <;> try rfl
    rename_i j m
    show wrapF i m (fun v => kr v .keep) = _
    rw [wrapF_eq]; rfl
  case mkfn f a b => simp only [mkfnK, mapF_eq, opSpec, evOp]; rfl
  case faddr off x =>
    simp only [faddrK, rhoK_eq, addF_eq, opSpec, evOp, optS_bif]
  case fld agg off m x =>
    simp only [fldK, rhoK_eq, opSpec, evOp]
    generalize rho G T x = a
    cases a <;> try rfl
    rename_i cs
    show ldF d agg m cs off kr = _
    rw [ldF_eq]; simp only [optS_bif]
  case iaddr sz x i =>
    simp only [iaddrK, rhoK_eq, asNatF_eq, idxF_eq, opSpec, evOp]
    cases natOf (rho G T i) with
    | none => rfl
    | some j => simp only [optS_bif]
  case iaddrA len sz x i =>
    simp only [iaddrAK, rhoK_eq, asNatF_eq, natF_eq, addF_eq, opSpec, evOp]
    cases natOf (rho G T i) with
    | none => rfl
    | some j =>
      simp only [optS_bif]
      cases Nat.blt j len <;> cases livesB H.get (rho G T x) <;> rfl
  case idxS x i =>
    simp only [idxSK, rhoK_eq, asNatF_eq, opSpec, evOp]
    cases natOf (rho G T i) with
    | none => rfl
    | some j =>
      generalize rho G T x = a
      cases a <;> try rfl
      rename_i s
      show mixF d (eIdxS j s) kr = _
      rw [mixF_eq]; rfl
  case look dd z ok m k =>
    simp only [lookK, rhoK_eq, opSpec, evOp]
    generalize rho G T m = a
    cases a <;> try rfl
    · show mixF d (eLook dd z ok (rho G T k) []) kr = _
      rw [mixF_eq]; rfl
    · rename_i b
      show getF d (asMapF d fun _ es => mixF d (eLook dd z ok (rho G T k) es) kr) (pth b) H = _
      rw [getF_eq]; dsimp only [mapB]
      cases H.get b with
      | none => rfl
      | some ob =>
        cases ob <;> try rfl
        rename_i es
        show mixF d (eLook dd z ok (rho G T k) es) kr = _
        rw [mixF_eq]; rfl
  case mapup dd m k v =>
    simp only [mapupK, rhoK_eq, opSpec, evOp]
    generalize rho G T m = a
    cases a <;> try rfl
    rename_i b
    show getF d (asMapF d fun fl es => mixF d (eMapup dd b (rho G T k) (rho G T v) fl es) kr) (pth b) H = _
    rw [getF_eq]
    dsimp only
    cases H.get b with
    | none => rfl
    | some ob =>
      cases ob <;> try rfl
      rename_i fl es
      show mixF d (eMapup dd b (rho G T k) (rho G T v) fl es) kr = _
      rw [mixF_eq]; rfl
  case ext x i =>
    simp only [extK, rhoK_eq, opSpec, evOp]
    generalize rho G T x = a
    cases a <;> try rfl
    rename_i vs
    show nthF d (fun v => kr v .keep) vs i = _
    rw [nthF_eq]; simp only [optS_bif, bltD]
    by_cases h : i < vs.length
    · rw [List.getElem?_eq_getElem h, decide_eq_true h]; simp [List.getD_eq_getElem?_getD, h]
    · rw [List.getElem?_eq_none (by omega), decide_eq_false h]; rfl
  case len x =>
    simp only [lenK, rhoK_eq, opSpec, evOp]
    generalize rho G T x = a
    cases a <;> try rfl
    · rename_i sz es
      show natF es.length _ = _
      rw [natF_eq]; rfl
    · rename_i b off m
      show getF d (asRowF d fun _ _ => kr (.int .i64 (.ofNat m)) .keep) (pth b) H = _
      rw [getF_eq]
      dsimp only
      cases H.get b with
      | none => rfl
      | some ob => cases ob <;> rfl
  case lenS x =>
    simp only [lenSK, rhoK_eq, opSpec, evOp]
    generalize rho G T x = a
    cases a <;> try rfl
    rename_i s
    show natF s.size (fun m => kr (.int .i64 (.ofNat m)) .keep) = _
    rw [natF_eq]; rfl
  case app sz bytes s x => simp only [appK, rhoK_eq, mixF_eq, getHF_eq]; rfl
end
end Go.Abs

namespace Go.Abs
open Go

section
variable {R : Type} (G : Nat → AV) (d : R)

noncomputable def dstF (v : AV) (dst : Option Nat) (T : PT AV) (k : PT AV → R) : R := Option.rec (motive := fun _ => R) (k T) (fun t => setF (some v) (pth t) T k) dst
theorem dstF_eq (v : AV) (dst : Option Nat) (T : PT AV) (k : PT AV → R) : dstF v dst T k = k (dstT T dst v) := by
  cases dst with
  | none => rfl
  | some t => simp only [dstF, setF_eq, dstT]

noncomputable def insLF (w0 : Nat) (xs ws : List Nat) (k : List Nat → R) : R := List.rec (motive := fun _ => R) (k ws) (fun b l _ => listK (insW w0 (b :: l) ws) k) xs
theorem insLF_eq (w0 : Nat) (xs ws : List Nat) (k : List Nat → R) : insLF w0 xs ws k = k (insW w0 xs ws) := by
  cases xs with
  | nil => rfl
  | cons b l => simp only [insLF, listK_eq]
noncomputable def insF (w0 b : Nat) (ws : List Nat) (k : List Nat → R) : R := Bool.rec (motive := fun _ => R) (k ws) (listK (insW w0 [b] ws) k) (Nat.blt b w0)
theorem insF_eq (w0 b : Nat) (ws : List Nat) (k : List Nat → R) : insF w0 b ws k = k (insW w0 [b] ws) := by
  simp only [insF, listK_eq]
  cases h : Nat.blt b w0 with
  | true => rfl
  | false => simp [insW, h]

def fpOf (ρ : Operand → AV) (op : ROp) (wl kl : List Nat) (n0 n1 : Nat) : FP := ⟨false, op.cops.flatMap fun o => (ρ o).refL, op.lops.flatMap fun o => (ρ o).refL, wl, kl, n0, n1⟩

/-- What an operation does, done. -/
noncomputable def finF (w0 : Nat) (dst : Option Nat) (op : ROp) (kk : KF R) (T : PT AV) (H : PT AObj) (n : Nat) (ws ks : List Nat) (r : AV) (ha : HA) : R :=
  HA.rec (motive := fun _ => R)
    (dstF r dst T fun T' => kk (fpOf (rhoF G T) op [] [] n n) T' H n ws ks)
    (fun b o => Bool.rec (motive := fun _ => R) d (dstF r dst T fun T' => setF (some o) (pth b) H fun H' => insF w0 b ws fun ws' => kk (fpOf (rhoF G T) op [b] [] n n) T' H' n ws' ks) (mayW op))
    (fun o => dstF r dst T fun T' => setF (some o) (pth n) H fun H' => natF (n + 1) fun n' => kk (fpOf (rhoF G T) op [] [] n n') T' H' n' ws ks)
    (fun b o => Option.rec (motive := fun _ => R)
      (dstF r dst T fun T' => setF (some o) (pth n) H fun H' => natF (n + 1) fun n' => kk (fpOf (rhoF G T) op [] [] n n') T' H' n' ws ks)
      (fun b => Bool.rec (motive := fun _ => R) d (dstF r dst T fun T' => setF none (pth b) H fun H1 => setF (some o) (pth n) H1 fun H' => natF (n + 1) fun n' => insF w0 b ws fun ws' => insF w0 b ks fun ks' => kk (fpOf (rhoF G T) op [b] [b] n n') T' H' n' ws' ks') (mayW op)) b) ha

theorem finF_eq (w0 : Nat) (dst : Option Nat) (op : ROp) (kk : KF R) (T : PT AV) (H : PT AObj) (n : Nat) (ws ks : List Nat) (r : AV) (ha : HA) :
    finF G d w0 dst op kk T H n ws ks r ha = bif mayW op || ha.wl.isEmpty then kk (fpOf (rho G T) op ha.wl ha.kl n (ha.next n)) (dstT T dst r) (ha.heapT H n) (ha.next n) (insW w0 ha.wl ws) (insW w0 ha.kl ks) else d := by
  cases ha with
  | keep => simp only [finF, dstF_eq, rhoF_eq, HA.wl, HA.kl, HA.heapT, HA.next, List.isEmpty_nil, Bool.or_true, cond_true, insW]
  | put b o =>
    simp only [finF, dstF_eq, rhoF_eq, setF_eq, insF_eq, HA.wl, HA.kl, HA.heapT, HA.next, List.isEmpty_cons, Bool.or_false]
    cases mayW op <;> rfl
  | new o => simp only [finF, dstF_eq, rhoF_eq, setF_eq, natF_eq, HA.wl, HA.kl, HA.heapT, HA.next, List.isEmpty_nil, Bool.or_true, cond_true, insW]
  | app b o =>
    cases b with
    | none => simp only [finF, dstF_eq, rhoF_eq, setF_eq, natF_eq, HA.wl, HA.kl, HA.heapT, HA.next, List.isEmpty_nil, Bool.or_true, cond_true, insW]
    | some b =>
      simp only [finF, dstF_eq, rhoF_eq, setF_eq, natF_eq, insF_eq, HA.wl, HA.kl, HA.heapT, HA.next, List.isEmpty_cons, Bool.or_false]
      cases mayW op <;> rfl

inductive Clo (R : Type) where
  | mk (f : CallK R → Nat → KF R → KS R)

noncomputable def callC (dst : Option Nat) (f : Operand) (args : List Operand) (call : CallK R) (w0 : Nat) (kk : KF R) : KS R := fun T H n ws ks =>
  rhoK G f T fun fv => mapF G T args fun as => call fv as H n fun r H' n' ws' ks' => dstF r dst T fun T' => insLF w0 ws' ws fun w => insLF w0 ks' ks fun k => kk ⟨true, [], [], ws', ks', n, n'⟩ T' H' n' w k
noncomputable def execC (dst : Option Nat) (op : ROp) : Clo R := match op with
  | .call f args => .mk (callC G dst f args)
  | op => OpC.rec (motive := fun _ => Clo R) (fun f => .mk fun _ w0 kk T H n ws ks => f T H n (finF G d w0 dst op kk T H n ws ks)) (opC G d op)

def isTup (v : Value) : Bool := match v with | .tuple _ => true | _ => false
noncomputable def xnorF (b w : Bool) : Bool := Bool.rec (motive := fun _ => Bool) (Bool.rec (motive := fun _ => Bool) true false w) w b
noncomputable def guardC (t : Nat) (w : Bool) (dst : Option Nat) (c : Clo R) : Clo R :=
  Clo.rec (motive := fun _ => Clo R) (fun f => .mk fun call w0 kk T H n ws ks => getF d (fun v =>
    AV.casesOn (motive_1 := fun _ => R) v d (fun b => Bool.rec (motive := fun _ => R) (dstF (.raw undef) dst T fun T' => kk ⟨false, [], [], [], [], n, n⟩ T' H n ws ks) (f call w0 kk T H n ws ks) (xnorF b w))
      (fun _ _ => d) (fun _ => d) d (fun _ _ => d) (fun _ _ _ => d) (fun _ _ => d) d (fun _ _ => d) (fun _ _ _ => d) d (fun _ => d) (fun _ _ _ => d) d (fun _ => d) (fun _ => d)
      (fun u => Bool.rec (motive := fun _ => R) d (dstF (.raw undef) dst T fun T' => kk ⟨false, [], [], [], [], n, n⟩ T' H n ws ks) (isTup u)) (fun _ => d) (fun _ _ => d) (fun _ _ _ _ => d)) (pth t) T) c

noncomputable def fiC (ri : RI) : Clo R :=
  RI.rec (motive := fun _ => Clo R) (fun dst op guard => Option.rec (motive := fun _ => Clo R) (.mk fun _ _ _ _ _ _ _ _ => d)
    (fun op => Option.rec (motive := fun _ => Clo R) (execC G d dst op) (fun g => Prod.rec (motive := fun _ => Clo R) (fun t w => guardC d t w dst (execC G d dst op)) g) guard) op) ri

def CallEq (call : CallF) (callK : CallK R) : Prop := ∀ fv as H n k, callK fv as H n k = match call fv as H n with | some (r, H', n', ws, ks) => k r H' n' ws ks | none => d

/-- The step, by the spec. -/
def stepSpec (x : Option (Mc × AV × Bool × FP)) (kk : KF R) : R := match x with | some (s', _, _, fp) => kk fp s'.T s'.H s'.n s'.ws s'.ks | none => d

variable {G} {d}

theorem execC_ok (dst : Option Nat) (op : ROp) : ∃ f, execC G d dst op = .mk f ∧ ∀ call callK, CallEq d call callK → ∀ w0 kk T H n ws ks, f callK w0 kk T H n ws ks = stepSpec d (evX G call dst op ⟨T, H, n, w0, ws, ks⟩) kk := by
  by_cases hop : ∃ f args, op = .call f args
  · obtain ⟨f, args, rfl⟩ := hop
    refine ⟨_, rfl, fun call callK hc w0 kk T H n ws ks => ?_⟩
    simp only [callC, rhoK_eq, mapF_eq, hc _ _ _ _ _, evX]
    cases call (rho G T f) (args.map (rho G T)) H n with
    | none => rfl
    | some q =>
      obtain ⟨r, H', n', ws', ks'⟩ := q
      simp only [dstF_eq, insLF_eq, dstK_eq, natK_eq, listK_eq]; rfl
  · have h1 : execC G d dst op = .mk fun _ w0 kk T H n ws ks => opSpec G d op T H n (finF G d w0 dst op kk T H n ws ks) := by
      cases op <;> first | (exact absurd ⟨_, _, rfl⟩ hop) | (simp only [execC, opC_ok])
    refine ⟨_, h1, fun call callK hc w0 kk T H n ws ks => ?_⟩
    have h2 : evX G call dst op ⟨T, H, n, w0, ws, ks⟩ = match evOp (rho G T) H.get n op with
      | some (r, ha) => bif mayW op || ha.wl.isEmpty then some (⟨dstT T dst r, ha.heapT H n, ha.next n, w0, insW w0 ha.wl ws, insW w0 ha.kl ks⟩, r, true, fpOf (rho G T) op ha.wl ha.kl n (ha.next n)) else none
      | none => none := by
      cases op <;> first | (exact absurd ⟨_, _, rfl⟩ hop) | (simp only [evX, dstK_eq, natK_eq, listK_eq, HA.heapK_eq]; rfl)
    rw [h2]
    simp only [opSpec]
    cases evOp (rho G T) H.get n op with
    | none => rfl
    | some q =>
      obtain ⟨r, ha⟩ := q
      show finF G d w0 dst op kk T H n ws ks r ha = _
      rw [finF_eq]
      dsimp only
      cases mayW op || ha.wl.isEmpty <;> rfl

theorem xnorF_eq (b w : Bool) : xnorF b w = (b == w) := by cases b <;> cases w <;> rfl

theorem fiC_ok (ri : RI) : ∃ f, fiC G d ri = .mk f ∧ ∀ call callK, CallEq d call callK → ∀ w0 kk T H n ws ks, f callK w0 kk T H n ws ks = stepSpec d (evI G call ri ⟨T, H, n, w0, ws, ks⟩) kk := by
  obtain ⟨dst, op, guard⟩ := ri
  cases op with
  | none => exact ⟨_, rfl, fun call callK hc w0 kk T H n ws ks => rfl⟩
  | some op =>
    obtain ⟨f, h1, h2⟩ := execC_ok (G := G) (d := d) dst op
    cases guard with
    | none => exact ⟨f, h1, fun call callK hc w0 kk T H n ws ks => h2 call callK hc w0 kk T H n ws ks⟩
    | some g =>
      obtain ⟨t, w⟩ := g
      have h3 : fiC G d ⟨dst, some op, some (t, w)⟩ = guardC d t w dst (execC G d dst op) := rfl
      rw [h3, h1]
      refine ⟨_, rfl, fun call callK hc w0 kk T H n ws ks => ?_⟩
      simp only [getF_eq, evI]
      cases T.get t with
      | none => rfl
      | some v =>
        cases v <;> try rfl
        · rename_i b
          simp only [xnorF_eq]
          cases hb : b == w with
          | true => simp only [cond_true]; exact h2 call callK hc w0 kk T H n ws ks
          | false => simp only [cond_false, dstF_eq, dstK_eq]; rfl
        · rename_i u
          cases u <;> try rfl
          show dstF (.raw undef) dst T (fun T' => kk ⟨false, [], [], [], [], n, n⟩ T' H n ws ks) = _
          simp only [dstF_eq, dstK_eq]; rfl

theorem evX_w0 {call : CallF} {dst : Option Nat} {op : ROp} {s s' : Mc} {r : AV} {ex : Bool} {p : FP} (h : evX G call dst op s = some (s', r, ex, p)) : s'.w0 = s.w0 := by
  unfold evX at h
  split at h
  · split at h
    · simp only [dstK_eq, natK_eq, listK_eq, Option.some.injEq, Prod.mk.injEq] at h
      obtain ⟨rfl, _⟩ := h; rfl
    · cases h
  · split at h
    · simp only [dstK_eq, natK_eq, listK_eq, HA.heapK_eq] at h
      obtain ⟨_, h⟩ := bif_some h
      simp only [Prod.mk.injEq] at h
      obtain ⟨rfl, _⟩ := h; rfl
    · cases h
theorem evI_w0 {call : CallF} {ri : RI} {s s' : Mc} {r : AV} {ex : Bool} {p : FP} (h : evI G call ri s = some (s', r, ex, p)) : s'.w0 = s.w0 := by
  unfold evI at h
  split at h
  · cases h
  · split at h
    · exact evX_w0 h
    · split at h
      · rename_i w _ _ b _
        cases hb : b == w with
        | true => rw [hb] at h; exact evX_w0 h
        | false =>
          rw [hb] at h
          simp only [cond_false, dstK_eq, Option.some.injEq, Prod.mk.injEq] at h
          obtain ⟨rfl, _⟩ := h; rfl
      · simp only [dstK_eq, Option.some.injEq, Prod.mk.injEq] at h
        obtain ⟨rfl, _⟩ := h; rfl
      · cases h
theorem evIs_w0 {call : CallF} : ∀ {l : List RI} {s s' : Mc} {ps : List FP}, evIs G call l s = some (s', ps) → s'.w0 = s.w0
  | [], s, s', ps, h => by
    simp only [evIs, Option.some.injEq, Prod.mk.injEq] at h
    obtain ⟨rfl, _⟩ := h; rfl
  | ri :: l, s, s', ps, h => by
    simp only [evIs] at h
    split at h
    · cases h
    · rename_i s1 r ex p h1
      split at h
      · cases h
      · rename_i s2 ps' h2
        simp only [Option.some.injEq, Prod.mk.injEq] at h
        obtain ⟨rfl, _⟩ := h
        exact (evIs_w0 h2).trans (evI_w0 h1)

variable (G) (d)
noncomputable def lsF (call : CallK R) (w0 : Nat) (l : List RI) : KS R → KS R :=
  List.rec (motive := fun _ => KS R → KS R) (fun k => k) (fun ri _ ih k => Clo.rec (motive := fun _ => KS R) (fun f => f call w0 fun _ => ih k) (fiC G d ri)) l
noncomputable def lsD (call : CallK R) (w0 : Nat) (l : List RI) : (List FP → KS R) → KS R :=
  List.rec (motive := fun _ => (List FP → KS R) → KS R) (fun k => k []) (fun ri _ ih k => Clo.rec (motive := fun _ => KS R) (fun f => f call w0 fun fp => ih fun ps => k (fp :: ps)) (fiC G d ri)) l
variable {G} {d}

theorem lsD_eq {call : CallF} {callK : CallK R} (hc : CallEq d call callK) (w0 : Nat) : ∀ (l : List RI) (k : List FP → KS R) (s : Mc), s.w0 = w0 → lsD G d callK w0 l k s.T s.H s.n s.ws s.ks = match evIs G call l s with | some (s', ps) => k ps s'.T s'.H s'.n s'.ws s'.ks | none => d
  | [], k, s, _ => rfl
  | ri :: l, k, s, hw => by
    obtain ⟨f, h1, h2⟩ := fiC_ok (G := G) (d := d) ri
    have h3 : lsD G d callK w0 (ri :: l) k = f callK w0 fun fp => lsD G d callK w0 l fun ps => k (fp :: ps) := by
      show Clo.rec (motive := fun _ => KS R) (fun f => f callK w0 fun fp => lsD G d callK w0 l fun ps => k (fp :: ps)) (fiC G d ri) = _
      rw [h1]
    rw [h3, h2 call callK hc]
    subst hw
    simp only [evIs]
    cases he : evI G call ri s with
    | none => rfl
    | some q =>
      obtain ⟨s1, r, ex, p⟩ := q
      simp only [stepSpec]
      rw [lsD_eq hc s.w0 l (fun ps => k (p :: ps)) s1 (evI_w0 he)]
      cases evIs G call l s1 with
      | none => rfl
      | some q => rfl

theorem lsF_eq {call : CallF} {callK : CallK R} (hc : CallEq d call callK) (w0 : Nat) : ∀ (l : List RI) (k : KS R) (s : Mc), s.w0 = w0 → lsF G d callK w0 l k s.T s.H s.n s.ws s.ks = match evIs G call l s with | some (s', _) => k s'.T s'.H s'.n s'.ws s'.ks | none => d
  | [], k, s, _ => rfl
  | ri :: l, k, s, hw => by
    obtain ⟨f, h1, h2⟩ := fiC_ok (G := G) (d := d) ri
    have h3 : lsF G d callK w0 (ri :: l) k = f callK w0 fun _ => lsF G d callK w0 l k := by
      show Clo.rec (motive := fun _ => KS R) (fun f => f callK w0 fun _ => lsF G d callK w0 l k) (fiC G d ri) = _
      rw [h1]
    rw [h3, h2 call callK hc]
    subst hw
    simp only [evIs]
    cases he : evI G call ri s with
    | none => rfl
    | some q =>
      obtain ⟨s1, r, ex, p⟩ := q
      simp only [stepSpec]
      rw [lsF_eq hc s.w0 l k s1 (evI_w0 he)]
      cases evIs G call l s1 with
      | none => rfl
      | some q => rfl

end
end Go.Abs

namespace Go.Abs
open Go

section
variable {R : Type} (G : Nat → AV) (d : R)

noncomputable def outF (o : Out) (kn : KS R) (ke : Nat → KS R) (kr : KS R) : KS R := Out.rec (motive := fun _ => KS R) kn (fun id => ke id) kr o
noncomputable def asLoopF (k : LoopState → Option Code → R) (o : AObj) : R := AObj.rec (motive := fun _ => R) (fun _ => d) (fun _ _ => d) (fun _ _ => d) (fun _ => d) (fun _ _ _ _ st pend => k st pend) (fun _ _ => d) o

noncomputable def rfunF (call : CallK R) (w0 : Nat) (N : Nat) (g : Operand) (ps : Array Tmp) (a b : Code) (kn : KS R) (ke : Nat → KS R) (kr : KS R) : KS R := fun T H n ws ks =>
  rhoK G g T fun gv =>
    AV.casesOn (motive_1 := fun _ => R) gv d (fun _ => d) (fun _ _ => d) (fun _ => d) d (fun _ _ => d) (fun _ _ _ => d) (fun _ _ => d) d (fun _ _ => d) (fun _ _ _ => d) d (fun _ => d)
      (fun f first cap => Fn.casesOn (motive := fun _ => R) f
        (fun id => setF (some (.loop (tsOf T N []) ps a b .ready none)) (pth n) H fun H1 => natF (n + 1) fun n1 => call (.fn (.func id) first cap) [.yld n] H1 n1 fun _ H2 n2 ws2 ks2 =>
          getF d (asLoopF d fun st pend => LoopState.casesOn (motive := fun _ => R) st
            (Option.rec (motive := fun _ => R) d (fun o => setF none (pth n) H2 fun H3 => insLF w0 ws2 ws fun w => insLF w0 ks2 ks fun k => outF o kn ke kr T H3 n2 w k) (pendOut pend)) d
            (Option.rec (motive := fun _ => R) d (fun o => setF none (pth n) H2 fun H3 => insLF w0 ws2 ws fun w => insLF w0 ks2 ks fun k => outF o kn ke kr T H3 n2 w k) (pendOut pend))
            (Option.rec (motive := fun _ => R) d (fun o => setF none (pth n) H2 fun H3 => insLF w0 ws2 ws fun w => insLF w0 ks2 ks fun k => outF o kn ke kr T H3 n2 w k) (pendOut pend))) (pth n) H2)
        (fun _ => d) (fun _ _ => d) (fun _ _ _ _ => d) (fun _ => d))
      d (fun _ => d) (fun _ => d) (fun _ => d) (fun _ => d) (fun _ _ => d) (fun _ _ _ _ => d)

noncomputable def evCF (call : CallK R) (w0 : Nat) (fuel : Nat) : RC → KS R → (Nat → KS R) → KS R → KS R :=
  Nat.rec (motive := fun _ => RC → KS R → (Nat → KS R) → KS R → KS R) (fun _ _ _ _ _ _ _ _ _ => d)
    (fun _ ih c kn ke kr => RC.casesOn (motive := fun _ => KS R) c
      kn
      (fun l => lsF G d call w0 l kn)
      (fun l prs => lsD G d call w0 l fun ps T H n ws ks => Bool.rec (motive := fun _ => R) d (kn T H n ws ks) (confs ps prs))
      (fun a b => ih a (ih b kn ke kr) ke kr)
      (fun o a b T H n ws ks => rhoK G o T fun v => asBoolF d (fun t => Bool.rec (motive := fun _ => R) (ih b kn ke kr T H n ws ks) (ih a kn ke kr T H n ws ks) t) v)
      (fun id a => ih a kn (fun id' T H n ws ks => Bool.rec (motive := fun _ => R) (ke id' T H n ws ks) (kn T H n ws ks) (Nat.beq id' id)) kr)
      (fun a => ih a (ih (.loop a) kn ke kr) ke kr)
      (fun id => ke id)
      kr
      (fun a => ih a kn ke kr)
      (fun N g ps a b => rfunF G d call w0 N g ps a b kn ke kr)
      (fun _ _ _ _ _ => d)) fuel

/-- What comes of a piece of code, by the spec. -/
def outSpec (x : Option (Out × Mc)) (kn : KS R) (ke : Nat → KS R) (kr : KS R) : R := match x with
  | some (.normal, s) => kn s.T s.H s.n s.ws s.ks
  | some (.exit id, s) => ke id s.T s.H s.n s.ws s.ks
  | some (.ret, s) => kr s.T s.H s.n s.ws s.ks
  | none => d

variable {G} {d}

theorem evC_w0 {call : CallF} : ∀ (fuel : Nat) {c : RC} {s s' : Mc} {o : Out}, evC G call fuel c s = some (o, s') → s'.w0 = s.w0
  | 0, c, s, s', o, h => by simp [evC] at h
  | f + 1, c, s, s', o, h => by
    cases c <;> simp only [evC] at h
    case skip => cases h; rfl
    case reg l =>
      split at h
      · rename_i s1 ps hs; cases h; exact evIs_w0 hs
      · cases h
    case regD l prs =>
      split at h
      · rename_i s1 ps hs; obtain ⟨_, h⟩ := bif_some h; cases h; exact evIs_w0 hs
      · cases h
    case seq a b =>
      split at h
      · rename_i s1 hs; exact (evC_w0 f h).trans (evC_w0 f hs)
      · exact evC_w0 f h
    case cond o a b =>
      split at h
      · split at h
        · exact evC_w0 f h
        · exact evC_w0 f h
      · cases h
    case block id a =>
      split at h
      · rename_i id' s1 hs
        have := evC_w0 f hs
        cases hb : Nat.beq id' id <;> simp only [hb, cond_true, cond_false, Option.some.injEq, Prod.mk.injEq] at h <;> (obtain ⟨_, rfl⟩ := h; exact this)
      · exact evC_w0 f h
    case loop a =>
      split at h
      · rename_i s1 hs; exact (evC_w0 f h).trans (evC_w0 f hs)
      · exact evC_w0 f h
    case exit id => cases h; rfl
    case ret => cases h; rfl
    case scope a => exact evC_w0 f h
    case rfun N g ps a b =>
      split at h
      · split at h
        · split at h
          · split at h
            · cases h
            · simp only [Option.some.injEq, Prod.mk.injEq] at h; obtain ⟨_, rfl⟩ := h; rfl
            · cases h
          · cases h
        · cases h
      · cases h
    case bad => cases h

theorem evCF_eq {call : CallF} {callK : CallK R} (hc : CallEq d call callK) (w0 : Nat) : ∀ (fuel : Nat) (c : RC) (kn : KS R) (ke : Nat → KS R) (kr : KS R) (s : Mc), s.w0 = w0 →
    evCF G d callK w0 fuel c kn ke kr s.T s.H s.n s.ws s.ks = outSpec d (evC G call fuel c s) kn ke kr
  | 0, c, kn, ke, kr, s, _ => rfl
  | f + 1, c, kn, ke, kr, s, hw => by
    have ih := evCF_eq hc w0 f
    cases c <;> simp only [evC]
    case skip => rfl
    case reg l =>
      show lsF G d callK w0 l kn s.T s.H s.n s.ws s.ks = _
      rw [lsF_eq hc w0 l kn s hw]
      cases evIs G call l s with
      | none => rfl
      | some q => rfl
    case regD l prs =>
      show lsD G d callK w0 l (fun ps T H n ws ks => Bool.rec (motive := fun _ => R) d (kn T H n ws ks) (confs ps prs)) s.T s.H s.n s.ws s.ks = _
      rw [lsD_eq hc w0 l _ s hw]
      cases evIs G call l s with
      | none => rfl
      | some q =>
        obtain ⟨s1, ps⟩ := q
        dsimp only
        cases confs ps prs <;> rfl
    case seq a b =>
      show evCF G d callK w0 f a (evCF G d callK w0 f b kn ke kr) ke kr s.T s.H s.n s.ws s.ks = _
      rw [ih a _ _ _ s hw]
      cases he : evC G call f a s with
      | none => rfl
      | some q =>
        obtain ⟨o, s1⟩ := q
        cases o with
        | normal => exact ih b kn ke kr s1 ((evC_w0 f he).trans hw)
        | exit id => rfl
        | ret => rfl
    case cond o a b =>
      show rhoK G o s.T (fun v => asBoolF d (fun t => Bool.rec (motive := fun _ => R) (evCF G d callK w0 f b kn ke kr s.T s.H s.n s.ws s.ks) (evCF G d callK w0 f a kn ke kr s.T s.H s.n s.ws s.ks) t) v) = _
      rw [rhoK_eq]
      generalize rho G s.T o = v
      cases v <;> try rfl
      rename_i t
      cases t with
      | true => exact ih a kn ke kr s hw
      | false => exact ih b kn ke kr s hw
    case block id a =>
      show evCF G d callK w0 f a kn (fun id' T H n ws ks => Bool.rec (motive := fun _ => R) (ke id' T H n ws ks) (kn T H n ws ks) (Nat.beq id' id)) kr s.T s.H s.n s.ws s.ks = _
      rw [ih a _ _ _ s hw]
      cases he : evC G call f a s with
      | none => rfl
      | some q =>
        obtain ⟨o, s1⟩ := q
        cases o with
        | normal => rfl
        | ret => rfl
        | exit id' =>
          simp only [outSpec]
          cases Nat.beq id' id <;> rfl
    case loop a =>
      show evCF G d callK w0 f a (evCF G d callK w0 f (.loop a) kn ke kr) ke kr s.T s.H s.n s.ws s.ks = _
      rw [ih a _ _ _ s hw]
      cases he : evC G call f a s with
      | none => rfl
      | some q =>
        obtain ⟨o, s1⟩ := q
        cases o with
        | normal => exact ih (.loop a) kn ke kr s1 ((evC_w0 f he).trans hw)
        | exit id => rfl
        | ret => rfl
    case exit id => rfl
    case ret => rfl
    case scope a => exact ih a kn ke kr s hw
    case rfun N g ps a b =>
      show rfunF G d callK w0 N g ps a b kn ke kr s.T s.H s.n s.ws s.ks = _
      simp only [rfunF, rhoK_eq]
      generalize rho G s.T g = v
      cases v <;> try rfl
      rename_i fn first cap
      cases fn <;> try rfl
      rename_i id
      simp only [setF_eq, natF_eq, hc _ _ _ _ _]
      cases call (.fn (.func id) first cap) [.yld s.n] (s.H.put s.n (some (.loop (tsOf s.T N []) ps a b .ready none))) (s.n + 1) with
      | none => rfl
      | some q =>
        obtain ⟨r, H2, n2, ws2, ks2⟩ := q
        simp only [getF_eq, insLF_eq]
        cases H2.get s.n with
        | none => rfl
        | some ob =>
          cases ob <;> try rfl
          rename_i ts' ps' as' bd' st pend
          subst hw
          cases st <;> (try rfl) <;> (simp only [asLoopF]; cases pendOut pend with
            | none => rfl
            | some o => cases o <;> rfl)
    case bad => rfl

/-! Functions -/
variable (G) (d)

noncomputable def argsF (l : List AV) : Nat → PT AV → (PT AV → R) → R :=
  List.rec (motive := fun _ => Nat → PT AV → (PT AV → R) → R) (fun _ T k => k T) (fun a _ ih i T k => setF (some a) (pth i) T fun T => natF (i + 1) fun i => ih i T k) l
variable {G} {d}
theorem argsF_eq : ∀ (l : List AV) (i : Nat) (T : PT AV) (k : PT AV → R), argsF l i T k = k (argsT l i T)
  | [], _, _, _ => rfl
  | a :: l, i, T, k => by
    show setF (some a) (pth i) T (fun T => natF (i + 1) fun i => argsF l i T k) = _
    rw [setF_eq, natF_eq, argsF_eq l]; rfl
variable (G) (d)

noncomputable def rrF (rr : RRes) (T : PT AV) (H : PT AObj) (k : AV → R) : R :=
  RRes.rec (motive := fun _ => R) (fun t => getF (k .any) k (pth t) T) (fun a agg n => getF d (fun v => behindF d H (fun cs off => ldF d agg n cs off fun r _ => k r) v) (pth a) T) rr
noncomputable def resF (rs : List RRes) (T : PT AV) (H : PT AObj) : (List AV → R) → R :=
  List.rec (motive := fun _ => (List AV → R) → R) (fun k => k []) (fun rr _ ih k => rrF d rr T H fun v => ih fun vs => k (v :: vs)) rs
variable {G} {d}
theorem rrF_eq (rr : RRes) (s : Mc) (k : AV → R) : rrF d rr s.T s.H k = match evR s rr with | some v => k v | none => d := by
  cases rr with
  | tmp t =>
    show getF (k .any) k (pth t) s.T = _
    rw [getF_eq]; simp only [evR]
    cases s.T.get t <;> rfl
  | cell a agg n =>
    show getF d (fun v => behindF d s.H (fun cs off => ldF d agg n cs off fun r _ => k r) v) (pth a) s.T = _
    rw [getF_eq]; simp only [evR]
    cases s.T.get a with
    | none => rfl
    | some v =>
      simp only [behindF_eq, ldF_eq]
      cases behindB s.H.get v with
      | none => rfl
      | some q =>
        obtain ⟨cs, off⟩ := q
        dsimp only
        cases Nat.ble (off + n) cs.length <;> rfl
theorem resF_eq (s : Mc) : ∀ (rs : List RRes) (k : List AV → R), resF d rs s.T s.H k = match allSome (evR s) rs with | some vs => k vs | none => d
  | [], k => rfl
  | rr :: rs, k => by
    show rrF d rr s.T s.H (fun v => resF d rs s.T s.H fun vs => k (v :: vs)) = _
    rw [rrF_eq]
    simp only [allSome]
    cases evR s rr with
    | none => rfl
    | some v =>
      dsimp only
      rw [resF_eq s rs]
      cases allSome (evR s) rs <;> rfl

variable (G) (d)
abbrev OrcK (R : Type) := Nat → List AV → List AV → List AV → PT AObj → Nat → (AV → PT AObj → Nat → List Nat → List Nat → R) → R → R

noncomputable def fnF (tab : Nat → Option RFn) (orcK : OrcK R) (F : Nat) (ih : CallK R) (id : Nat) (first cap : List AV) (as : List AV) (H : PT AObj) (n : Nat) (k : AV → PT AObj → Nat → List Nat → List Nat → R) : R :=
  orcK id first cap as H n k
    (Option.rec (motive := fun _ => R) d (fun rf => RFn.rec (motive := fun _ => R) (fun body res => argsF (first ++ as ++ cap) 0 .leaf fun T =>
      evCF G d ih n F body (fun T H n ws ks => resF d res T H fun rs => AV.headK (resultAV rs) fun r => k r H n ws ks) (fun _ _ _ _ _ _ => d) (fun T H n ws ks => resF d res T H fun rs => AV.headK (resultAV rs) fun r => k r H n ws ks) T H n [] []) rf) (tab id))
end
end Go.Abs

namespace Go.Abs
open Go

section
variable {R : Type} (G : Nat → AV) (d : R)

noncomputable def asLoopA (k : List AV → Array Tmp → Code → Code → LoopState → Option Code → R) (o : AObj) : R := AObj.rec (motive := fun _ => R) (fun _ => d) (fun _ _ => d) (fun _ _ => d) (fun _ => d) (fun ts ps a b st pend => k ts ps a b st pend) (fun _ _ => d) o
noncomputable def setPsF (ps : List Nat) : List AV → PT AV → (PT AV → R) → R :=
  List.rec (motive := fun _ => List AV → PT AV → (PT AV → R) → R) (fun _ T k => k T) (fun t _ ih l T k => List.rec (motive := fun _ => R) (k T) (fun a l' _ => setF (some a) (pth t) T fun T => ih l' T k) l) ps
theorem setPsF_eq : ∀ (ps : List Nat) (l : List AV) (T : PT AV) (k : PT AV → R), setPsF ps l T k = k (setPs ps l T)
  | [], l, T, k => rfl
  | t :: ps, [], T, k => rfl
  | t :: ps, a :: l, T, k => by
    show setF (some a) (pth t) T (fun T => setPsF ps l T k) = _
    rw [setF_eq, setPsF_eq ps l]; rfl

noncomputable def yldEnd (b n0 : Nat) (o : Out) (k : AV → PT AObj → Nat → List Nat → List Nat → R) : KS R := fun _ H n ws ks =>
  getF d (asLoopA d fun ts2 ps2 as2 bd2 _ _ => setF (some (.loop ts2 ps2 as2 bd2 (doneSt (jumpC o)) (jumpC o))) (pth b) H fun H' => insF n0 b ws fun ws' => boolF (jumpC o).isNone fun t => k (.bool t) H' n ws' ks) (pth b) H
noncomputable def yldBody (P : Program) (F : Nat) (ih : CallK R) (b n0 N : Nat) (bd : Code) (k : AV → PT AObj → Nat → List Nat → List Nat → R) : KS R := fun T H n ws ks =>
  getF d (asLoopA d fun ts1 ps1 as1 bd1 st1 pend1 => LoopState.casesOn (motive := fun _ => R) st1
    (setF (some (.loop ts1 ps1 as1 bd1 .busy pend1)) (pth b) H fun H' => insF n0 b ws fun ws' =>
      evCF G d ih n0 F (comp P N false bd) (yldEnd d b n0 .normal k) (fun id => yldEnd d b n0 (.exit id) k) (yldEnd d b n0 .ret k) T H' n ws' ks) d d d) (pth b) H
noncomputable def yldF (P : Program) (F : Nat) (ih : CallK R) (b : Nat) (as : List AV) (H : PT AObj) (n : Nat) (k : AV → PT AObj → Nat → List Nat → List Nat → R) : R :=
  getF d (asLoopA d fun ts ps asg bd st _ => LoopState.casesOn (motive := fun _ => R) st
    (Bool.rec (motive := fun _ => R) d (argsF ts 0 .leaf fun T0 => setPsF ps.toList as T0 fun T =>
      natF ts.length fun N => evCF G d ih n F (comp P N false asg) (yldBody G d P F ih b n N bd k) (fun _ _ _ _ _ _ => d) (fun _ _ _ _ _ => d) T H n [] [])
      (Nat.beq ps.size as.length && ps.toList.all fun t => Nat.blt t ts.length)) d d d) (pth b) H

noncomputable def evFF (P : Program) (tab : Nat → Option RFn) (orcK : OrcK R) (F : Nat) (fuel : Nat) : CallK R :=
  Nat.rec (motive := fun _ => CallK R) (fun _ _ _ _ _ => d)
    (fun _ ih fv as H n k =>
      AV.casesOn (motive_1 := fun _ => R) fv d (fun _ => d) (fun _ _ => d) (fun _ => d) d (fun _ _ => d) (fun _ _ _ => d) (fun _ _ => d) d (fun _ _ => d) (fun _ _ _ => d) d (fun _ => d)
        (fun f first cap => Fn.casesOn (motive := fun _ => R) f (fun id => fnF G d tab orcK F ih id first cap as H n k) (fun _ => d) (fun _ _ => d) (fun _ _ _ _ => d) (fun _ => d))
        d (fun _ => d) (fun _ => d) (fun _ => d) (fun b => yldF G d P F ih b as H n k) (fun _ _ => d) (fun _ _ _ _ => d)) fuel

variable {G} {d}

def resSpec (d : R) (x : Option (AV × PT AObj × Nat × List Nat × List Nat)) (k : AV → PT AObj → Nat → List Nat → List Nat → R) : R := match x with | some (r, H', n', ws, ks) => k r H' n' ws ks | none => d

theorem yldEnd_eq (b n0 : Nat) (o : Out) (k : AV → PT AObj → Nat → List Nat → List Nat → R) (s : Mc) (hw : s.w0 = n0) : yldEnd d b n0 o k s.T s.H s.n s.ws s.ks =
    resSpec d (match s.H.get b with | some (.loop ts2 ps2 as2 bd2 _ _) => some (.bool (jumpC o).isNone, s.H.put b (some (.loop ts2 ps2 as2 bd2 (doneSt (jumpC o)) (jumpC o))), s.n, insW s.w0 [b] s.ws, s.ks) | _ => none) k := by
  simp only [yldEnd, getF_eq]
  cases s.H.get b with
  | none => rfl
  | some ob =>
    cases ob <;> try rfl
    simp only [asLoopA, setF_eq, insF_eq, boolF_eq, hw]; rfl

def OrcEq (orc : OrcF) (orcK : OrcK R) : Prop := ∀ id first cap as H n k e, orcK id first cap as H n k e = match orcSel orc id first cap as H n with | some x => k x.1 x.2.1 x.2.2.1 x.2.2.2.1 x.2.2.2.2 | none => e

theorem evFF_eq (P : Program) (tab : Nat → Option RFn) {orc : OrcF} {orcK : OrcK R} (hK : OrcEq orc orcK) (F : Nat) : ∀ fuel, CallEq d (evF P G tab orc F fuel) (evFF G d P tab orcK F fuel)
  | 0 => fun fv as H n k => rfl
  | f + 1 => by
    have ih := evFF_eq P tab hK F f
    intro fv as H n k
    unfold evF
    cases fv <;> try rfl
    · rename_i fn first cap
      cases fn <;> try rfl
      rename_i id
      show fnF G d tab orcK F (evFF G d P tab orcK F f) id first cap as H n k = _
      dsimp only
      simp only [fnF]
      rw [hK id first cap as H n k]
      cases orcSel orc id first cap as H n with
      | some x => rfl
      | none =>
        dsimp only
        cases tab id with
        | none => rfl
        | some rf =>
          obtain ⟨body, res⟩ := rf
          dsimp only
          simp only [argsF_eq, argsK_eq]
          have hk : ∀ s : Mc, resF d res s.T s.H (fun rs => AV.headK (resultAV rs) fun r => k r s.H s.n s.ws s.ks) = resSpec d (match allSome (evR s) res with | some rs => some (resultAV rs, s.H, s.n, s.ws, s.ks) | none => none) k := fun s => by
            rw [resF_eq]
            cases allSome (evR s) res with
            | none => rfl
            | some vs => simp only [AV.headK_eq]; rfl
          have he := evCF_eq (G := G) ih n F body (fun T H n ws ks => resF d res T H fun rs => AV.headK (resultAV rs) fun r => k r H n ws ks) (fun _ _ _ _ _ _ => d) (fun T H n ws ks => resF d res T H fun rs => AV.headK (resultAV rs) fun r => k r H n ws ks) ⟨argsT (first ++ as ++ cap) 0 .leaf, H, n, n, [], []⟩ rfl
          refine he.trans ?_
          cases evC G (evF P G tab orc F f) F body ⟨argsT (first ++ as ++ cap) 0 .leaf, H, n, n, [], []⟩ with
          | none => rfl
          | some q =>
            obtain ⟨o, s'⟩ := q
            cases o with
            | normal => exact hk s'
            | ret => exact hk s'
            | exit id => rfl
    · rename_i b
      show yldF G d P F (evFF G d P tab orcK F f) b as H n k = _
      simp only [yldF, getF_eq]
      cases hb : H.get b with
      | none => rfl
      | some ob =>
        cases ob <;> try rfl
        rename_i ts ps asg bd st pend
        cases st <;> try rfl
        simp only [asLoopA]
        cases hcnd : Nat.beq ps.size as.length && ps.toList.all fun t => Nat.blt t ts.length with
        | false => rfl
        | true =>
          simp only [argsF_eq, setPsF_eq, natF_eq]
          have he := evCF_eq (G := G) ih n F (comp P ts.length false asg) (yldBody G d P F (evFF G d P tab orcK F f) b n ts.length bd k) (fun _ _ _ _ _ _ => d) (fun _ _ _ _ _ => d) ⟨setPs ps.toList as (argsT ts 0 .leaf), H, n, n, [], []⟩ rfl
          refine he.trans ?_
          cases h1 : evC G (evF P G tab orc F f) F (comp P ts.length false asg) ⟨setPs ps.toList as (argsT ts 0 .leaf), H, n, n, [], []⟩ with
          | none => rfl
          | some q =>
            obtain ⟨o, s1⟩ := q
            have hw1 : s1.w0 = n := evC_w0 F h1
            cases o with
            | ret => rfl
            | exit id => rfl
            | normal =>
              simp only [outSpec, yldBody, getF_eq]
              cases s1.H.get b with
              | none => rfl
              | some ob1 =>
                cases ob1 <;> try rfl
                rename_i ts1 ps1 as1 bd1 st1 pend1
                cases st1 <;> try rfl
                simp only [asLoopA, setF_eq, insF_eq]
                have he2 := evCF_eq (G := G) ih n F (comp P ts.length false bd) (yldEnd d b n .normal k) (fun id => yldEnd d b n (.exit id) k) (yldEnd d b n .ret k) ⟨s1.T, s1.H.put b (some (.loop ts1 ps1 as1 bd1 .busy pend1)), s1.n, s1.w0, insW s1.w0 [b] s1.ws, s1.ks⟩ hw1
                have e3 : insW n [b] s1.ws = insW s1.w0 [b] s1.ws := by rw [hw1]
                rw [e3]
                refine he2.trans ?_
                cases h2 : evC G (evF P G tab orc F f) F (comp P ts.length false bd) ⟨s1.T, s1.H.put b (some (.loop ts1 ps1 as1 bd1 .busy pend1)), s1.n, s1.w0, insW s1.w0 [b] s1.ws, s1.ks⟩ with
                | none => rfl
                | some q =>
                  obtain ⟨o2, s2⟩ := q
                  have hw2 : s2.w0 = n := (evC_w0 F h2).trans hw1
                  cases o2 with
                  | normal => exact yldEnd_eq b n .normal k s2 hw2
                  | exit id => exact yldEnd_eq b n (.exit id) k s2 hw2
                  | ret => exact yldEnd_eq b n .ret k s2 hw2

/-- A run that the kernel has reckoned is one of the interpreter's. -/
theorem evFF_run {P : Program} {tab : Nat → Option RFn} {orc : OrcF} {orcK : OrcK Bool} (hK : OrcEq orc orcK) {F fuel : Nat} {fv : AV} {as : List AV} {H : PT AObj} {n : Nat} {test : AV → PT AObj → Bool}
    (h : evFF G false P tab orcK F fuel fv as H n (fun r H _ _ _ => test r H) = true) : ∃ r H' n' ws ks, evF P G tab orc F fuel fv as H n = some (r, H', n', ws, ks) ∧ test r H' = true := by
  rw [evFF_eq P tab hK F fuel fv as H n] at h
  cases he : evF P G tab orc F fuel fv as H n with
  | none => rw [he] at h; cases h
  | some q =>
    obtain ⟨r, H', n', ws, ks⟩ := q
    rw [he] at h
    exact ⟨r, H', n', ws, ks, rfl, h⟩
end
end Go.Abs

namespace Go.Abs
open Go

/-! Comparison with a written value -/
section
variable {R : Type} (d : R)

noncomputable def all2F (f : AV → AV → R → R) (l : List AV) : List AV → R → R :=
  List.rec (motive := fun _ => List AV → R → R) (fun l0 k => List.rec (motive := fun _ => R) k (fun _ _ _ => d) l0) (fun a _ ih l0 k => List.rec (motive := fun _ => R) d (fun b l0' _ => f a b (ih l0' k)) l0) l
noncomputable def bytesF (s : List UInt8) : List UInt8 → R → R :=
  List.rec (motive := fun _ => List UInt8 → R → R) (fun l0 k => List.rec (motive := fun _ => R) k (fun _ _ _ => d) l0) (fun a _ ih l0 k => List.rec (motive := fun _ => R) d (fun b l0' _ => Bool.rec (motive := fun _ => R) d (ih l0' k) (Nat.beq a.toNat b.toNat)) l0) s

/-- Values that name nothing, equal. -/
noncomputable def eqC (fl : Bool) (fuel : Nat) : AV → AV → R → R :=
  Nat.rec (motive := fun _ => AV → AV → R → R) (fun _ _ _ => d) (fun _ ih a b k =>
    AV.casesOn (motive_1 := fun _ => R) a
      (AV.casesOn (motive_1 := fun _ => R) b k (fun _ => d) (fun _ _ => d) (fun _ => d) d (fun _ _ => d) (fun _ _ _ => d) (fun _ _ => d) d (fun _ _ => d) (fun _ _ _ => d) d (fun _ => d) (fun _ _ _ => d) d (fun _ => d) (fun _ => d) (fun _ => d) (fun _ => d) (fun _ _ => d) (fun _ _ _ _ => d))
      (fun x => asBoolF d (fun y => Bool.rec (motive := fun _ => R) d k (xnorF x y)) b)
      (fun i m => asIntF d (fun j n => Bool.rec (motive := fun _ => R) d (eqF m n fun t => Bool.rec (motive := fun _ => R) d k t) (Nat.beq (ikNo i) (ikNo j))) b)
      (fun s => asStrF d (fun t => bytesF d s.data.toList t.data.toList k) b)
      (AV.casesOn (motive_1 := fun _ => R) b d (fun _ => d) (fun _ _ => d) (fun _ => d) k (fun _ _ => d) (fun _ _ _ => d) (fun _ _ => d) d (fun _ _ => d) (fun _ _ _ => d) d (fun _ => d) (fun _ _ _ => d) d (fun _ => d) (fun _ => d) (fun _ => d) (fun _ => d) (fun _ _ => d) (fun _ _ _ _ => d))
      (fun _ _ => d) (fun _ _ _ => d) (fun _ _ => d)
      (AV.casesOn (motive_1 := fun _ => R) b d (fun _ => d) (fun _ _ => d) (fun _ => d) d (fun _ _ => d) (fun _ _ _ => d) (fun _ _ => d) k (fun _ _ => d) (fun _ _ _ => d) d (fun _ => d) (fun _ _ _ => d) d (fun _ => d) (fun _ => d) (fun _ => d) (fun _ => d) (fun _ _ => d) (fun _ _ _ _ => d))
      (fun sz es => AV.casesOn (motive_1 := fun _ => R) b d (fun _ => d) (fun _ _ => d) (fun _ => d) d (fun _ _ => d) (fun _ _ _ => d) (fun _ _ => d) d
        (fun sz0 es0 => Bool.rec (motive := fun _ => R) d (Bool.rec (motive := fun _ => R) d (all2F d ih es es0 k) (Nat.beq sz sz0)) fl) (fun _ _ _ => d) d (fun _ => d) (fun _ _ _ => d) d (fun _ => d) (fun _ => d) (fun _ => d) (fun _ => d) (fun _ _ => d) (fun _ _ _ _ => d))
      (fun _ _ _ => d)
      (AV.casesOn (motive_1 := fun _ => R) b d (fun _ => d) (fun _ _ => d) (fun _ => d) d (fun _ _ => d) (fun _ _ _ => d) (fun _ _ => d) d (fun _ _ => d) (fun _ _ _ => d) k (fun _ => d) (fun _ _ _ => d) d (fun _ => d) (fun _ => d) (fun _ => d) (fun _ => d) (fun _ _ => d) (fun _ _ _ _ => d))
      (fun _ => d) (fun _ _ _ => d)
      (AV.casesOn (motive_1 := fun _ => R) b d (fun _ => d) (fun _ _ => d) (fun _ => d) d (fun _ _ => d) (fun _ _ _ => d) (fun _ _ => d) d (fun _ _ => d) (fun _ _ _ => d) d (fun _ => d) (fun _ _ _ => d) k (fun _ => d) (fun _ => d) (fun _ => d) (fun _ => d) (fun _ _ => d) (fun _ _ _ _ => d))
      (fun cs => AV.casesOn (motive_1 := fun _ => R) b d (fun _ => d) (fun _ _ => d) (fun _ => d) d (fun _ _ => d) (fun _ _ _ => d) (fun _ _ => d) d (fun _ _ => d) (fun _ _ _ => d) d (fun _ => d) (fun _ _ _ => d) d (fun cs0 => all2F d ih cs cs0 k) (fun _ => d) (fun _ => d) (fun _ => d) (fun _ _ => d) (fun _ _ _ _ => d))
      (fun _ => d) (fun _ => d) (fun _ => d) (fun _ _ => d) (fun _ _ _ _ => d)) fuel

/-- a, read out of the heap, is b. -/
noncomputable def cmpF (fl : Bool) (H : PT AObj) (fuel : Nat) : AV → AV → R → R :=
  Nat.rec (motive := fun _ => AV → AV → R → R) (fun _ _ _ => d) (fun f ih a b k =>
    AV.casesOn (motive_1 := fun _ => R) a (eqC d fl f a b k) (fun _ => eqC d fl f a b k) (fun _ _ => eqC d fl f a b k) (fun _ => eqC d fl f a b k) (eqC d fl f a b k) (fun _ _ => d) (fun _ _ _ => d) (fun _ _ => d) (eqC d fl f a b k) (fun _ _ => eqC d fl f a b k)
      (fun p off n => AV.casesOn (motive_1 := fun _ => R) b d (fun _ => d) (fun _ _ => d) (fun _ => d) d (fun _ _ => d) (fun _ _ _ => d) (fun _ _ => d) d
        (fun sz es0 => getF d (asRowF d fun sz' es => Bool.rec (motive := fun _ => R) d (segF d off n es fun l => all2F d ih l es0 k) (Nat.beq sz' sz)) (pth p) H) (fun _ _ _ => d) d (fun _ => d) (fun _ _ _ => d) d (fun _ => d) (fun _ => d) (fun _ => d) (fun _ => d) (fun _ _ => d) (fun _ _ _ _ => d))
      (eqC d fl f a b k) (fun _ => d) (fun _ _ _ => d) (eqC d fl f a b k)
      (fun cs => AV.casesOn (motive_1 := fun _ => R) b d (fun _ => d) (fun _ _ => d) (fun _ => d) d (fun _ _ => d) (fun _ _ _ => d) (fun _ _ => d) d (fun _ _ => d) (fun _ _ _ => d) d (fun _ => d) (fun _ _ _ => d) d (fun cs0 => all2F d ih cs cs0 k) (fun _ => d) (fun _ => d) (fun _ => d) (fun _ _ => d) (fun _ _ _ _ => d))
      (fun cs => AV.casesOn (motive_1 := fun _ => R) b d (fun _ => d) (fun _ _ => d) (fun _ => d) d (fun _ _ => d) (fun _ _ _ => d) (fun _ _ => d) d (fun _ _ => d) (fun _ _ _ => d) d (fun _ => d) (fun _ _ _ => d) d (fun _ => d) (fun cs0 => all2F d ih cs cs0 k) (fun _ => d) (fun _ => d) (fun _ _ => d) (fun _ _ _ _ => d))
      (fun _ => d) (fun _ => d) (fun _ _ => d) (fun _ _ _ _ => d)) fuel

variable {d}
/-- A test that lets through or not, whatever is asked of it. -/
def Tst (f : ∀ {R : Type} (d : R), R → R) (P : Prop) : Prop := (∀ {R : Type} (d k : R), f d k = k ∨ f d k = d) ∧ (f (R := Bool) false true = true → P)

end

/-- What a comparison says. -/
structure CmpOk (f : ∀ {R : Type} (d : R), AV → AV → R → R) (P : AV → AV → Prop) : Prop where
  par : ∀ a b, (∀ (R : Type) (d k : R), f d a b k = k) ∧ P a b ∨ ∀ (R : Type) (d k : R), f d a b k = d

theorem all2F_ok {f : ∀ {R : Type} (d : R), AV → AV → R → R} {P : AV → AV → Prop} (hf : CmpOk f P) : ∀ l l0, ((∀ (R : Type) (d k : R), all2F d (f d) l l0 k = k) ∧ l0.length = l.length ∧ ∀ j, j < l.length → P (l.getD j .any) (l0.getD j .any)) ∨ ∀ (R : Type) (d k : R), all2F d (f d) l l0 k = d
  | [], [] => .inl ⟨fun R d k => rfl, rfl, fun j hj => by simp at hj⟩
  | [], b :: l0 => .inr fun R d k => rfl
  | a :: l, [] => .inr fun R d k => rfl
  | a :: l, b :: l0 => by
    rcases hf.par a b with ⟨h1, h2⟩ | h1
    · rcases all2F_ok hf l l0 with ⟨k1, k2, k3⟩ | k1
      · refine .inl ⟨fun R d k => ?_, by simp [k2], fun j hj => ?_⟩
        · show f d a b (all2F d (f d) l l0 k) = k
          rw [h1, k1]
        · cases j with
          | zero => simpa using h2
          | succ j => simpa using k3 j (by simpa using hj)
      · refine .inr fun R d k => ?_
        show f d a b (all2F d (f d) l l0 k) = d
        rw [h1, k1]
    · exact .inr fun R d k => h1 R d _

theorem bytesF_ok : ∀ s t : List UInt8, ((∀ (R : Type) (d k : R), bytesF d s t k = k) ∧ s = t) ∨ ∀ (R : Type) (d k : R), bytesF d s t k = d
  | [], [] => .inl ⟨fun R d k => rfl, rfl⟩
  | [], b :: l0 => .inr fun R d k => rfl
  | a :: l, [] => .inr fun R d k => rfl
  | a :: l, b :: l0 => by
    cases hb : Nat.beq a.toNat b.toNat with
    | false =>
      refine .inr fun R d k => ?_
      show Bool.rec (motive := fun _ => R) d (bytesF d l l0 k) (Nat.beq a.toNat b.toNat) = d
      rw [hb]
    | true =>
      have e : a = b := UInt8.toNat_inj.1 (Nat.eq_of_beq_eq_true hb)
      rcases bytesF_ok l l0 with ⟨k1, k2⟩ | k1
      · refine .inl ⟨fun R d k => ?_, by rw [e, k2]⟩
        show Bool.rec (motive := fun _ => R) d (bytesF d l l0 k) (Nat.beq a.toNat b.toNat) = k
        rw [hb]; exact k1 R d k
      · refine .inr fun R d k => ?_
        show Bool.rec (motive := fun _ => R) d (bytesF d l l0 k) (Nat.beq a.toNat b.toNat) = d
        rw [hb]; exact k1 R d k

/-- Equal, and naming nothing. -/
def EqP (fl : Bool) (a b : AV) : Prop := a = b ∧ a.free ∧ (fl = false → a.plain = true)

theorem list_eq_of_getD : ∀ {l l0 : List AV}, l0.length = l.length → (∀ j, j < l.length → l.getD j .any = l0.getD j .any) → l = l0
  | [], [], _, _ => rfl
  | [], b :: l0, h, _ => by simp at h
  | a :: l, [], h, _ => by simp at h
  | a :: l, b :: l0, h, k => by
    have h0 := k 0 (by simp)
    have := list_eq_of_getD (l := l) (l0 := l0) (by simpa using h) fun j hj => by have := k (j + 1) (by simpa using hj); simpa using this
    simp at h0
    rw [h0, this]

theorem plainL_of : ∀ {l : List AV}, (∀ a ∈ l, a.plain = true) → AV.plainL l = true
  | [], _ => rfl
  | a :: l, h => by simp only [AV.plainL, Bool.and_eq_true]; exact ⟨h a (by simp), plainL_of fun b hb => h b (by simp [hb])⟩

theorem eqC_ok (fl : Bool) : ∀ fuel, CmpOk (fun d => eqC d fl fuel) (EqP fl)
  | 0 => ⟨fun a b => .inr fun R d k => rfl⟩
  | f + 1 => by
    have ih := eqC_ok fl f
    refine ⟨fun a b => ?_⟩
    have base : ∀ a : AV, a.free → a.plain = true → EqP fl a a := fun a h1 h2 => ⟨rfl, h1, fun _ => h2⟩
    cases a
    case any => cases b <;> first | exact .inl ⟨fun R d k => rfl, base _ trivial rfl⟩ | exact .inr fun R d k => rfl
    case nilp => cases b <;> first | exact .inl ⟨fun R d k => rfl, base _ trivial rfl⟩ | exact .inr fun R d k => rfl
    case nils => cases b <;> first | exact .inl ⟨fun R d k => rfl, base _ trivial rfl⟩ | exact .inr fun R d k => rfl
    case nilm => cases b <;> first | exact .inl ⟨fun R d k => rfl, base _ trivial rfl⟩ | exact .inr fun R d k => rfl
    case nilf => cases b <;> first | exact .inl ⟨fun R d k => rfl, base _ trivial rfl⟩ | exact .inr fun R d k => rfl
    case bool x =>
      cases b <;> try exact .inr fun R d k => rfl
      rename_i y
      cases x <;> cases y <;> first | exact .inl ⟨fun R d k => rfl, base _ trivial rfl⟩ | exact .inr fun R d k => rfl
    case int i m =>
      cases b <;> try exact .inr fun R d k => rfl
      rename_i j n
      have e : ∀ (R : Type) (d k : R), eqC d fl (f + 1) (.int i m) (.int j n) k = Bool.rec (motive := fun _ => R) d (eqF m n fun t => Bool.rec (motive := fun _ => R) d k t) (Nat.beq (ikNo i) (ikNo j)) := fun R d k => rfl
      by_cases hi : i = j
      · subst hi
        by_cases hm : m = n
        · subst hm
          refine .inl ⟨fun R d k => ?_, base _ trivial rfl⟩
          rw [e, ikNo_eq, decide_eq_true rfl, eqF_eq]
          have : (m == m) = true := by simp
          rw [this]
        · refine .inr fun R d k => ?_
          rw [e, ikNo_eq, decide_eq_true rfl, eqF_eq]
          have : (m == n) = false := by simpa using hm
          rw [this]
      · refine .inr fun R d k => ?_
        rw [e, ikNo_eq, decide_eq_false hi]
    case str s =>
      cases b <;> try exact .inr fun R d k => rfl
      rename_i t
      rcases bytesF_ok s.data.toList t.data.toList with ⟨h1, h2⟩ | h1
      · have : s = t := by
          cases s; cases t
          congr 1
          exact Array.ext' h2
        subst this
        exact .inl ⟨fun R d k => h1 R d k, base _ trivial rfl⟩
      · exact .inr fun R d k => h1 R d k
    case sl sz es =>
      cases b <;> try exact .inr fun R d k => rfl
      rename_i sz0 es0
      have e : ∀ (R : Type) (d k : R), eqC d fl (f + 1) (.sl sz es) (.sl sz0 es0) k = Bool.rec (motive := fun _ => R) d (Bool.rec (motive := fun _ => R) d (all2F d (eqC d fl f) es es0 k) (Nat.beq sz sz0)) fl := fun R d k => rfl
      cases fl with
      | false => exact .inr fun R d k => e R d k
      | true =>
        cases hs : Nat.beq sz sz0 with
        | false => exact .inr fun R d k => by rw [e, hs]
        | true =>
          obtain rfl := Nat.eq_of_beq_eq_true hs
          rcases all2F_ok ih es es0 with ⟨h1, h2, h3⟩ | h1
          · obtain rfl := list_eq_of_getD h2 fun j hj => (h3 j hj).1
            refine .inl ⟨fun R d k => by rw [e, hs]; exact h1 R d k, rfl, ?_, fun h => by cases h⟩
            simp only [AV.free, AV.refsIn, AV.refsInL_iff]
            intro a ha
            obtain ⟨j, hj, rfl⟩ := mem_getD .any ha
            exact (h3 j hj).2.1
          · exact .inr fun R d k => by rw [e, hs]; exact h1 R d k
    case agg cs =>
      cases b <;> try exact .inr fun R d k => rfl
      rename_i cs0
      have e : ∀ (R : Type) (d k : R), eqC d fl (f + 1) (.agg cs) (.agg cs0) k = all2F d (eqC d fl f) cs cs0 k := fun R d k => rfl
      rcases all2F_ok ih cs cs0 with ⟨h1, h2, h3⟩ | h1
      · obtain rfl := list_eq_of_getD h2 fun j hj => (h3 j hj).1
        refine .inl ⟨fun R d k => by rw [e]; exact h1 R d k, rfl, ?_, fun h => ?_⟩
        · simp only [AV.free, AV.refsIn, AV.refsInL_iff]
          intro a ha
          obtain ⟨j, hj, rfl⟩ := mem_getD .any ha
          exact (h3 j hj).2.1
        · simp only [AV.plain]
          refine plainL_of fun a ha => ?_
          obtain ⟨j, hj, rfl⟩ := mem_getD .any ha
          exact (h3 j hj).2.2 h
      · exact .inr fun R d k => by rw [e]; exact h1 R d k
    all_goals exact .inr fun R d k => rfl

/-- a leads to b. -/
def CmpP (fl : Bool) (H : Heap) (a b : AV) : Prop := Frz (fun a => a.free ∧ (fl = false → a.plain = true)) H a b

theorem cmpF_ok (fl : Bool) (H : PT AObj) : ∀ fuel, CmpOk (fun d => cmpF d fl H fuel) (CmpP fl H.get)
  | 0 => ⟨fun a b => .inr fun R d k => rfl⟩
  | f + 1 => by
    have ih := cmpF_ok fl H f
    refine ⟨fun a b => ?_⟩
    have leaf : ((∀ (R : Type) (d k : R), eqC d fl f a b k = k) ∧ CmpP fl H.get a b) ∨ ∀ (R : Type) (d k : R), eqC d fl f a b k = d := by
      rcases (eqC_ok fl f).par a b with ⟨h1, h2, h3⟩ | h1
      · subst h2; exact .inl ⟨h1, .same h3⟩
      · exact .inr h1
    cases a
    case row p off n =>
      cases b <;> try exact .inr fun R d k => rfl
      rename_i sz es0
      have e : ∀ (R : Type) (d k : R), cmpF d fl H (f + 1) (.row p off n) (.sl sz es0) k = getF d (asRowF d fun sz' es => Bool.rec (motive := fun _ => R) d (segF d off n es fun l => all2F d (cmpF d fl H f) l es0 k) (Nat.beq sz' sz)) (pth p) H := fun R d k => rfl
      cases hb : H.get p with
      | none => exact .inr fun R d k => by rw [e, getF_eq, hb]
      | some ob =>
        cases ob <;> try (exact .inr fun R d k => by rw [e, getF_eq, hb]; rfl)
        rename_i sz' es
        have e2 : ∀ (R : Type) (d k : R), cmpF d fl H (f + 1) (.row p off n) (.sl sz es0) k = Bool.rec (motive := fun _ => R) d (segF d off n es fun l => all2F d (cmpF d fl H f) l es0 k) (Nat.beq sz' sz) := fun R d k => by rw [e, getF_eq, hb]; rfl
        cases hs : Nat.beq sz' sz with
        | false => exact .inr fun R d k => by rw [e2, hs]
        | true =>
          obtain rfl := Nat.eq_of_beq_eq_true hs
          by_cases hle : off + n ≤ es.length
          · have e3 : ∀ (R : Type) (d k : R), cmpF d fl H (f + 1) (.row p off n) (.sl sz' es0) k = all2F d (cmpF d fl H f) (seg es off n) es0 k := fun R d k => by
              rw [e2, hs]
              show segF d off n es (fun l => all2F d (cmpF d fl H f) l es0 k) = _
              rw [segF_eq, bleD, decide_eq_true hle]; rfl
            rcases all2F_ok ih (seg es off n) es0 with ⟨h1, h2, h3⟩ | h1
            · rw [seg_length _ _ _ hle] at h2 h3
              refine .inl ⟨fun R d k => by rw [e3]; exact h1 R d k, .row hb hle h2 fun j hj => ?_⟩
              have := h3 j hj
              rwa [seg_getD _ _ _ _ _ hj] at this
            · exact .inr fun R d k => by rw [e3]; exact h1 R d k
          · refine .inr fun R d k => ?_
            rw [e2, hs]
            show segF d off n es (fun l => all2F d (cmpF d fl H f) l es0 k) = _
            rw [segF_eq, bleD, decide_eq_false hle]; rfl
    case agg cs =>
      cases b <;> try exact .inr fun R d k => rfl
      rename_i cs0
      rcases all2F_ok ih cs cs0 with ⟨h1, h2, h3⟩ | h1
      · exact .inl ⟨fun R d k => h1 R d k, .agg h2 h3⟩
      · exact .inr fun R d k => h1 R d k
    case tup cs =>
      cases b <;> try exact .inr fun R d k => rfl
      rename_i cs0
      rcases all2F_ok ih cs cs0 with ⟨h1, h2, h3⟩ | h1
      · exact .inl ⟨fun R d k => h1 R d k, .tup h2 h3⟩
      · exact .inr fun R d k => h1 R d k
    all_goals first | exact leaf | exact .inr fun R d k => rfl

end Go.Abs

namespace Go.Abs
open Go

/-! What is known of calls of pure functions, over written values -/
structure Fact where
  id : Nat
  args : List AV
  r : AV

/-- The deepest that a written value is. -/
def Deep : Nat := 40

noncomputable def argsB (H : PT AObj) (as l0 : List AV) : Bool := all2F false (cmpF false true H Deep) as l0 true
noncomputable def orcOf : List Fact → OrcF
  | [], _, _, _, _ => none
  | f :: fs, id, as, H, n => bif Nat.beq f.id id && argsB H as f.args then some (f.r, H, n, [], []) else orcOf fs id as H n

section
variable {R : Type}
noncomputable def orcKF (fs : List Fact) (id : Nat) (as : List AV) (H : PT AObj) (n : Nat) (k : AV → PT AObj → Nat → List Nat → List Nat → R) (e : R) : R :=
  List.rec (motive := fun _ => R) e (fun f _ ih => Fact.rec (motive := fun _ => R) (fun fid args r => Bool.rec (motive := fun _ => R) ih (all2F ih (cmpF ih true H Deep) as args (k r H n [] [])) (Nat.beq fid id)) f) fs
noncomputable def orcK (fs : List Fact) : OrcK R := fun id first cap as H n k e =>
  List.rec (motive := fun _ => R) (List.rec (motive := fun _ => R) (orcKF fs id as H n k e) (fun _ _ _ => e) cap) (fun _ _ _ => e) first

theorem argsB_ok (H : PT AObj) (as l0 : List AV) : (argsB H as l0 = true ∧ (∀ (R : Type) (d k : R), all2F d (cmpF d true H Deep) as l0 k = k) ∧ l0.length = as.length ∧ ∀ j, j < as.length → CmpP true H.get (as.getD j .any) (l0.getD j .any)) ∨ (argsB H as l0 = false ∧ ∀ (R : Type) (d k : R), all2F d (cmpF d true H Deep) as l0 k = d) := by
  rcases all2F_ok (cmpF_ok true H Deep) as l0 with ⟨h1, h2, h3⟩ | h1
  · exact .inl ⟨h1 Bool false true, h1, h2, h3⟩
  · exact .inr ⟨h1 Bool false true, h1⟩

theorem orcKF_eq (id : Nat) (as : List AV) (H : PT AObj) (n : Nat) (k : AV → PT AObj → Nat → List Nat → List Nat → R) (e : R) : ∀ fs : List Fact, orcKF fs id as H n k e = match orcOf fs id as H n with | some x => k x.1 x.2.1 x.2.2.1 x.2.2.2.1 x.2.2.2.2 | none => e
  | [] => rfl
  | f :: fs => by
    have ih := orcKF_eq id as H n k e fs
    have h0 : orcKF (f :: fs) id as H n k e = Bool.rec (motive := fun _ => R) (orcKF fs id as H n k e) (all2F (orcKF fs id as H n k e) (cmpF (orcKF fs id as H n k e) true H Deep) as f.args (k f.r H n [] [])) (Nat.beq f.id id) := rfl
    rw [h0]
    simp only [orcOf]
    cases Nat.beq f.id id with
    | false => simp only [Bool.false_and, cond_false]; exact ih
    | true =>
      rcases argsB_ok H as f.args with ⟨h1, h2, _⟩ | ⟨h1, h2⟩
      · simp only [h1, h2, Bool.and_self, cond_true]
      · simp only [h1, h2, Bool.and_false, cond_false]; exact ih

theorem orcK_eq (fs : List Fact) : OrcEq (R := R) (orcOf fs) (orcK fs) := by
  intro id first cap as H n k e
  cases first with
  | cons a l => cases cap <;> rfl
  | nil =>
    cases cap with
    | cons a l => rfl
    | nil => exact orcKF_eq id as H n k e fs
end

def FactOk (E : Env) (f : Fact) : Prop := HasBody E f.id ∧ ∃ r H0 n0, CallOk E (.fn (.func f.id) [] []) f.args (fun _ => none) 0 r H0 n0 ∧ Frz (fun a => a.plain = true) H0 r f.r

theorem Frz.mono {Q Q' : AV → Prop} (h : ∀ a, Q a → Q' a) {H : Heap} {a a0 : AV} (hf : Frz Q H a a0) : Frz Q' H a a0 := by
  induction hf with
  | same hq => exact .same (h _ hq)
  | agg hl _ ih => exact .agg hl ih
  | tup hl _ ih => exact .tup hl ih
  | row hb hn hl _ ih => exact .row hb hn hl ih

theorem orcOf_ok {E : Env} (hG : ∀ g, (E.G g).free) : ∀ {fs : List Fact}, (∀ f ∈ fs, FactOk E f) → OrcOk E (orcOf fs)
  | [], _ => fun id as H n r H' n' ws ks h _ => by cases h
  | f :: fs, hfs => by
    have ih := orcOf_ok hG (fs := fs) fun g hg => hfs g (by simp [hg])
    intro id as H n r H' n' ws ks h hfr
    simp only [orcOf] at h
    cases hid : Nat.beq f.id id && argsB H as f.args with
    | false => rw [hid] at h; exact ih _ _ _ _ _ _ _ _ _ h hfr
    | true =>
      rw [hid] at h
      simp only [cond_true, Option.some.injEq, Prod.mk.injEq] at h
      obtain ⟨rfl, rfl, rfl, rfl, rfl⟩ := h
      simp only [Bool.and_eq_true] at hid
      obtain rfl := Nat.eq_of_beq_eq_true hid.1
      obtain ⟨hb, r1, H0, n0, hc, hr⟩ := hfs f (by simp)
      rcases argsB_ok H as f.args with ⟨_, _, h3, h4⟩ | ⟨h1, _⟩
      · refine ⟨hc.lift (by simp [AV.free, AV.refsIn, AV.refsInL]) hG hr h3 (fun j hj => (h4 j hj).mono fun a h => h.1) hfr, ⟨fun _ _ _ => rfl, fun _ _ _ o ho => ⟨o, ho, o.like_refl⟩⟩, hb⟩
      · rw [hid.2] at h1; cases h1

/-- A FACT, RECKONED BY THE KERNEL. -/
theorem fact_of {E : Env} (hmix : E.P.follows .mixedOrders = true) (hG : ∀ g, (E.G g).free) {tab : Nat → Option RFn} (ht : TabOk E tab) {fs : List Fact} (hfs : ∀ f ∈ fs, FactOk E f) {F fuel : Nat} {f : Fact} (hb : HasBody E f.id)
    (h : evFF E.G false E.P tab (orcK fs) F fuel (.fn (.func f.id) [] []) f.args .leaf 0 (fun r H _ _ _ => cmpF false false H Deep r f.r true) = true) : FactOk E f := by
  obtain ⟨r, H', n', ws, ks, h1, h2⟩ := evFF_run (test := fun r H => cmpF false false H Deep r f.r true) (orcK_eq fs) h
  have hleaf : (PT.leaf : PT AObj).get = fun _ => none := by funext i; rfl
  have hok := (evF_ok hmix ht (orcOf_ok hG hfs) F fuel _ _ _ _ _ _ _ _ _ h1 (fun b _ => rfl)).1
  rw [hleaf] at hok
  refine ⟨hb, r, H'.get, n', hok, ?_⟩
  rcases (cmpF_ok false H' Deep).par r f.r with ⟨_, h3⟩ | h3
  · exact h3.mono fun a h => h.2 rfl
  · rw [h3 Bool false true] at h2; cases h2

/-- THE LAW's OWN RUN. -/
theorem law_of {E : Env} (hmix : E.P.follows .mixedOrders = true) (hG : ∀ g, (E.G g).free) {tab : Nat → Option RFn} (ht : TabOk E tab) {fs : List Fact} (hfs : ∀ f ∈ fs, FactOk E f) {F fuel id : Nat}
    (h : evFF E.G false E.P tab (orcK fs) F fuel (.fn (.func id) [] []) [] .leaf 0 (fun r H _ _ _ => eqC false false 2 r (.bool true) true) = true) :
    ∃ H' n', CallOk E (.fn (.func id) [] []) [] (fun _ => none) 0 (.bool true) H' n' := by
  obtain ⟨r, H', n', ws, ks, h1, h2⟩ := evFF_run (test := fun r _ => eqC false false 2 r (.bool true) true) (orcK_eq fs) h
  have hleaf : (PT.leaf : PT AObj).get = fun _ => none := by funext i; rfl
  have hok := (evF_ok hmix ht (orcOf_ok hG hfs) F fuel _ _ _ _ _ _ _ _ _ h1 (fun b _ => rfl)).1
  rw [hleaf] at hok
  rcases (eqC_ok false 2).par r (.bool true) with ⟨_, h3⟩ | h3
  · rw [h3.1] at hok; exact ⟨_, _, hok⟩
  · rw [h3 Bool false true] at h2; cases h2
end Go.Abs
