/- What is proved here serves the claim's last text: regions whose order is drawn, code, calls, and the range over a function. It speaks of any program of the model. -/
import Derived.Test.YtajbdbjkpglgfaaGreatDoorA2
import Derived.RangeFuncLeaves
set_option linter.unusedSectionVars false
set_option linter.unusedSimpArgs false
set_option linter.unusedVariables false
namespace Go.Abs
open Go

/-! ### Temporaries as a function -/
def RelF (x : Ctx) (N : Nat) (T : Nat → AV) (a : Act) : Prop := a.tmps.size = N ∧ ∀ t, Rel x (T t) (a.tmps.getD t undef)
def putF (T : Nat → AV) (d : Option Nat) (v : AV) : Nat → AV := match d with | none => T | some d => fun t => if t = d then v else T t
def aevalF (G : Nat → AV) (T : Nat → AV) : Operand → AV
  | .tmp t => T t
  | .const v => AV.ofConst v
  | .global g => G g
  | .func f => .fn (.func f) [] []

theorem RelF.put {x : Ctx} {N : Nat} {T : Nat → AV} {a : Act} (h : RelF x N T a) {d : Option Nat} (hd : ∀ t, d = some t → t < N) {r : AV} {v : Value} (hr : Rel x r v) : RelF x N (putF T d r) (a.put d v) := by
  cases d with
  | none => exact h
  | some d =>
    refine ⟨by simp [Act.put, h.1], fun t => ?_⟩
    by_cases ht : t = d
    · subst ht
      have : t < a.tmps.size := by rw [h.1]; exact hd _ rfl
      simp only [putF, if_true, Act.put]
      simpa [Array.getD_eq_getD_getElem?, this] using hr
    · simp only [putF, if_neg ht, Act.put]
      have := h.2 t
      simpa [Array.getD_eq_getD_getElem?, Array.getElem?_setIfInBounds_ne (Ne.symm ht)] using this
theorem RelF.ext {x x' : Ctx} {N : Nat} {T : Nat → AV} {a : Act} (h : RelF x N T a) (e : Ext x x') : RelF x' N T a := ⟨h.1, fun t => (h.2 t).ext e⟩
theorem RelF.evalT {E : Env} {x : Ctx} {T : Nat → AV} {a : Act} (hG : GOk E x) {o : Operand} (h : ∀ t, o = .tmp t → Rel x (T t) (a.tmps.getD t undef)) : Rel x (aevalF E.G T o) (a.eval o) := by
  cases o with
  | tmp t => exact h t rfl
  | const v => exact Rel.ofConst x v
  | global g => exact hG g
  | func f => exact .fn _ [] [] _ _ rfl rfl (fun j hj => by simp at hj) (fun j hj => by simp at hj)

/-- What a guard sees: a truth value; or nothing, where the operation that it hangs on was left out. -/
def GuardAt (v : AV) (w ex : Bool) : Prop := (∃ t, v = .bool t ∧ ex = (t == w)) ∨ (∃ vs, v = .raw (.tuple vs) ∧ ex = false)

/-- The temporaries that an operation looks at. -/
def looks (ops : Array Oper) (o : Oper) (t : Nat) : Prop := .tmp t ∈ o.op.operands ∨ ∃ j w, o.guard = some (j, w) ∧ (ops[j]?).bind (·.dst) = some t

/-- A region, done in the order of the text. -/
structure Canon (E : Env) (ro : Option Nat) (ops : Array Oper) where
  T : Nat → Nat → AV
  H : Nat → Heap
  n : Nat → Nat
  r : Nat → AV
  ex : Nat → Bool
  C : Nat → Nat → Prop
  L : Nat → Nat → Prop
  W : Nat → Nat → Prop
  Kl : Nat → Nat → Prop
  B : Nat → Nat → Prop
  hT : ∀ i, T (i + 1) = putF (T i) ((ops[i]?).bind (·.dst)) (r i)
  hx : ∀ i, ex i = false → H (i + 1) = H i ∧ n (i + 1) = n i ∧ r i = .raw undef
  hn : ∀ i, n i ≤ n (i + 1)
  fresh : ∀ i b, n i ≤ b → H i b = none
  hW : ∀ i b, b < n i → ¬ W i b → H (i + 1) b = H i b
  hKl : ∀ i b, b < n i → ¬ Kl i b → ∀ o, H i b = some o → ∃ o', H (i + 1) b = some o' ∧ o.like o'
  hnew : ∀ i b, H i b = none → H (i + 1) b ≠ none → n i ≤ b
  hWC : ∀ i b, W i b → C i b
  hg : ∀ i o, ops[i]? = some o → (o.guard = none → ex i = true) ∧ ∀ j w, o.guard = some (j, w) → ∃ d, (ops[j]?).bind (·.dst) = some d ∧ GuardAt (T i d) w (ex i)
  good : ∀ i o, ops[i]? = some o → ex i = true → ∀ x a, RelW x → GOk E x → (∀ p ∈ o.op.operands, Rel x (aevalF E.G (T i) p) (a.eval p)) → AgS (C i) (L i) x (H i) → (∀ b, n i ≤ b → b < n (i + 1) → ¬ x.used b) →
    GoodN E ro o a x (H i) (n i) (r i) (H (i + 1)) (n (i + 1))
  hB : ∀ j i, B j i → ∃ o e, ops[i]? = some o ∧ e ∈ o.after ∧ Region.binds .any e = true ∧ (e.on = j ∨ B j e.on)
  hdep : ∀ i o e, ops[i]? = some o → e ∈ o.after → Region.binds .any e = true → e.on < i
  hct : ∀ i j oi oj d, i ≠ j → ops[i]? = some oi → ops[j]? = some oj → oi.dst = some d → (oj.dst = some d ∨ looks ops oj d) → B i j ∨ B j i
  hcc : ∀ i j, i ≠ j → ex i = true → ex j = true → ¬ (B i j ∨ B j i) → (∀ b, C i b → ¬ W j b) ∧ (∀ b, L i b → ¬ Kl j b) ∧ (∀ b, W i b → ¬ (n j ≤ b ∧ b < n (j + 1)))

theorem AObj.like_symm {a b : AObj} (h : a.like b) : b.like a := by cases a <;> cases b <;> simp_all [AObj.like]

theorem patch_keep {X H H' : Heap} {b : Nat} (h : H' b = H b) : patch X H H' b = X b := by simp [patch, h]
theorem patch_chg {X H H' : Heap} {b : Nat} (h : H' b ≠ H b) : patch X H H' b = H' b := by simp [patch, h]

namespace Canon
variable {E : Env} {ro : Option Nat} {ops : Array Oper} (c : Canon E ro ops)

def chg (k b : Nat) : Prop := c.H (k + 1) b ≠ c.H k b

noncomputable def XS (X0 : Heap) (S : Nat → Bool) : Nat → Heap
  | 0 => X0
  | k + 1 => if S k then patch (XS X0 S k) (c.H k) (c.H (k + 1)) else XS X0 S k

def TS (S : Nat → Bool) : Nat → Nat → AV
  | 0 => c.T 0
  | k + 1 => if S k then putF (TS S k) ((ops[k]?).bind (·.dst)) (c.r k) else TS S k

theorem n_mono {i j : Nat} (h : i ≤ j) : c.n i ≤ c.n j := by
  induction h with
  | refl => exact Nat.le_refl _
  | step _ ih => exact Nat.le_trans ih (c.hn _)

theorem none_stays {i j b : Nat} (h : i ≤ j) (hb : b < c.n i) (h0 : c.H i b = none) : c.H j b = none := by
  induction h with
  | refl => exact h0
  | @step j hj ih =>
    cases hh : c.H (j + 1) b with
    | none => rfl
    | some o =>
      have := c.hnew j b ih (by simp [hh])
      have := c.n_mono hj
      exact absurd hb (by simp only [Nat.le_eq] at *; omega)

theorem chg_cases {k b : Nat} (h : c.chg k b) : c.ex k = true ∧ ((c.W k b ∧ b < c.n k ∧ c.H k b ≠ none) ∨ (c.n k ≤ b ∧ b < c.n (k + 1))) := by
  have hex : c.ex k = true := by
    cases he : c.ex k with
    | true => rfl
    | false => exact absurd (by rw [(c.hx k he).1]) h
  refine ⟨hex, ?_⟩
  by_cases hb : b < c.n k
  · refine .inl ⟨?_, hb, fun h0 => ?_⟩
    · exact Classical.byContradiction fun hw => h (c.hW k b hb hw)
    · have : c.H (k + 1) b ≠ none := fun h1 => h (h1.trans h0.symm)
      have := c.hnew k b h0 this
      omega
  · have h0 := c.fresh k b (by omega)
    refine .inr ⟨by omega, ?_⟩
    refine Classical.byContradiction fun hge => h ?_
    rw [h0]; exact c.fresh (k + 1) b (by omega)

variable {S : Nat → Bool}
structure Closed (S : Nat → Bool) : Prop where
  down : ∀ i o e, S i = true → ops[i]? = some o → e ∈ o.after → Region.binds .any e = true → S e.on = true

theorem B_lt {j i : Nat} : c.B j i → j < i := by
  induction i using Nat.strongRecOn with
  | _ i ih =>
    intro h
    obtain ⟨o, e, ho, he, hb, hj⟩ := c.hB j i h
    have hlt := c.hdep i o e ho he hb
    rcases hj with rfl | hj
    · exact hlt
    · exact Nat.lt_trans (ih _ hlt hj) hlt

theorem closed_B (hS : Closed (ops := ops) S) {j i : Nat} : S i = true → c.B j i → S j = true := by
  induction i using Nat.strongRecOn with
  | _ i ih =>
    intro hi h
    obtain ⟨o, e, ho, he, hb, hj⟩ := c.hB j i h
    have hlt := c.hdep i o e ho he hb
    have hs := hS.down i o e hi ho he hb
    rcases hj with rfl | hj
    · exact hs
    · exact ih _ hlt hs hj

theorem ready_B (hS : Closed (ops := ops) S) {j i : Nat} (hr : ∀ o e, ops[i]? = some o → e ∈ o.after → Region.binds .any e = true → S e.on = true) (h : c.B j i) : S j = true := by
  obtain ⟨o, e, ho, he, hb, hj⟩ := c.hB j i h
  have hs := hr o e ho he hb
  rcases hj with rfl | hj
  · exact hs
  · exact c.closed_B hS hs hj

section at_i
variable {i : Nat} (hS : Closed (ops := ops) S) (hi : S i = false) (hr : ∀ o e, ops[i]? = some o → e ∈ o.after → Region.binds .any e = true → S e.on = true)
include hS hi hr

/-- Who is not done before i and stands ahead of it, or is done and stands behind it, is not ordered against it. -/
theorem uncmp_lt {k : Nat} (hk : k < i) (hs : S k = false) : ¬ (c.B i k ∨ c.B k i) := by
  rintro (h | h)
  · have := c.B_lt h; omega
  · have := c.ready_B hS hr h; simp_all
theorem uncmp_gt {k : Nat} (hk : i < k) (hs : S k = true) : ¬ (c.B i k ∨ c.B k i) := by
  rintro (h | h)
  · have := c.closed_B hS hs h; simp_all
  · have := c.B_lt h; omega

theorem XS_cont (hex : c.ex i = true) {X0 : Heap} {b : Nat} (hC : c.C i b) (hne : c.H i b ≠ none) (hun : ∀ k, k < i → S k = false → ¬ (c.n k ≤ b ∧ b < c.n (k + 1))) (h0 : X0 b = c.H 0 b) {m : Nat} (hm : i ≤ m) :
    c.XS X0 S m b = c.H i b := by
  have A : ∀ k, k ≤ i → c.XS X0 S k b = c.H k b := by
    intro k
    induction k with
    | zero => intro _; exact h0
    | succ k ih =>
      intro hk
      have ih := ih (by omega)
      simp only [XS]
      by_cases hch : c.chg k b
      · cases hs : S k with
        | true => simp only [if_true]; exact patch_chg hch
        | false =>
          obtain ⟨hek, hcs⟩ := c.chg_cases hch
          have hu := c.uncmp_lt hS hi hr (show k < i by omega) hs
          rcases hcs with ⟨hw, _, _⟩ | hint
          · exact absurd hw ((c.hcc i k (by omega) hex hek hu).1 b hC)
          · exact absurd hint (hun k (by omega) hs)
      · have hch : c.H (k + 1) b = c.H k b := Classical.byContradiction hch
        split
        · rw [patch_keep hch, ih, hch]
        · rw [ih, hch]
  have Bm : ∀ d, c.XS X0 S (i + d) b = c.H i b := by
    intro d
    induction d with
    | zero => exact A i (Nat.le_refl _)
    | succ d ih =>
      rw [← Nat.add_assoc]
      simp only [XS]
      split
      · rename_i hs
        have hd : i + d ≠ i := fun e => by rw [e] at hs; simp_all
        have hch : c.H (i + d + 1) b = c.H (i + d) b := by
          refine Classical.byContradiction fun hch => ?_
          obtain ⟨hek, hcs⟩ := c.chg_cases hch
          have hu := c.uncmp_gt hS hi hr (show i < i + d by omega) hs
          rcases hcs with ⟨hw, _, _⟩ | hint
          · exact (c.hcc i (i + d) (by omega) hex hek hu).1 b hC hw
          · exact hne (c.fresh i b (Nat.le_trans (c.n_mono (by omega)) hint.1))
        rw [patch_keep hch, ih]
      · exact ih
  obtain ⟨d, rfl⟩ := Nat.le.dest hm
  exact Bm d

theorem XS_like (hex : c.ex i = true) {X0 : Heap} {b : Nat} (hL : c.L i b) {o : AObj} (ho : c.H i b = some o) (hun : ∀ k, k < i → S k = false → ¬ (c.n k ≤ b ∧ b < c.n (k + 1))) (h0 : X0 b = c.H 0 b) {m : Nat} (hm : i ≤ m) :
    ∃ o', c.XS X0 S m b = some o' ∧ o.like o' := by
  have hbi : b < c.n i := Classical.byContradiction fun h => by rw [c.fresh i b (by omega)] at ho; cases ho
  have A : ∀ k, k ≤ i → ∀ o, c.H k b = some o → ∃ o', c.XS X0 S k b = some o' ∧ o.like o' := by
    intro k
    induction k with
    | zero => intro _ o ho; exact ⟨o, h0.trans ho, o.like_refl⟩
    | succ k ih =>
      intro hk o ho
      have ih := ih (by omega)
      simp only [XS]
      by_cases hch : c.chg k b
      · cases hs : S k with
        | true => simp only [if_true]; exact ⟨o, (patch_chg hch).trans ho, o.like_refl⟩
        | false =>
          obtain ⟨hek, hcs⟩ := c.chg_cases hch
          have hu := c.uncmp_lt hS hi hr (show k < i by omega) hs
          rcases hcs with ⟨hw, hbk, hne⟩ | hint
          · have hk := (c.hcc i k (by omega) hex hek hu).2.1 b hL
            cases h1 : c.H k b with
            | none => exact absurd h1 hne
            | some o1 =>
              obtain ⟨o2, h2, hl⟩ := c.hKl k b hbk hk o1 h1
              rw [ho] at h2; cases h2
              obtain ⟨o3, h3, hl3⟩ := ih o1 h1
              exact ⟨o3, by simpa using h3, AObj.like_trans (AObj.like_symm hl) hl3⟩
          · exact absurd hint (hun k (by omega) hs)
      · have hch : c.H (k + 1) b = c.H k b := Classical.byContradiction hch
        obtain ⟨o', h1, h2⟩ := ih o (hch ▸ ho)
        split
        · exact ⟨o', by rw [patch_keep hch, h1], h2⟩
        · exact ⟨o', h1, h2⟩
  have Bm : ∀ d, (∃ o', c.XS X0 S (i + d) b = some o' ∧ o.like o') ∧ ((∀ j, i ≤ j → j < i + d → c.chg j b → S j = true) → ∃ o', c.H (i + d) b = some o' ∧ o.like o') := by
    intro d
    induction d with
    | zero => exact ⟨A i (Nat.le_refl _) o ho, fun _ => ⟨o, ho, o.like_refl⟩⟩
    | succ d ih =>
      rw [← Nat.add_assoc]
      obtain ⟨ih1, ih2⟩ := ih
      by_cases hch : c.chg (i + d) b
      · obtain ⟨hek, hcs⟩ := c.chg_cases hch
        have hlt : b < c.n (i + d) := Nat.lt_of_lt_of_le hbi (c.n_mono (by omega))
        have hw : c.W (i + d) b ∧ b < c.n (i + d) ∧ c.H (i + d) b ≠ none := hcs.resolve_right (by omega)
        cases hs : S (i + d) with
        | true =>
          have hd : i + d ≠ i := fun e => by rw [e] at hs; simp_all
          have hu := c.uncmp_gt hS hi hr (show i < i + d by omega) hs
          have hk := (c.hcc i (i + d) (by omega) hex hek hu).2.1 b hL
          have hall : ∀ j, i ≤ j → j < i + d → c.chg j b → S j = true := fun j hj1 hj2 hcj => by
            cases hsj : S j with
            | true => rfl
            | false =>
              exfalso
              obtain ⟨hej, hcsj⟩ := c.chg_cases hcj
              have hwj : c.W j b := (hcsj.resolve_right (by have := c.n_mono hj1; omega)).1
              have hun2 : ¬ (c.B (i + d) j ∨ c.B j (i + d)) := by
                rintro (h | h)
                · have := c.B_lt h; omega
                · have := c.closed_B hS hs h; simp_all
              exact (c.hcc (i + d) j (by omega) hek hej hun2).1 b (c.hWC _ _ hw.1) hwj
          obtain ⟨o2, h2, hl2⟩ := ih2 hall
          obtain ⟨o3, h3, hl3⟩ := c.hKl (i + d) b hlt hk o2 h2
          have hl := AObj.like_trans hl2 hl3
          refine ⟨⟨o3, ?_, hl⟩, fun _ => ⟨o3, h3, hl⟩⟩
          simp only [XS, hs, if_true]
          exact (patch_chg hch).trans h3
        | false =>
          refine ⟨by simpa only [XS, hs, Bool.false_eq_true, if_false] using ih1, fun hall => ?_⟩
          have := hall (i + d) (by omega) (by omega) hch
          simp_all
      · have hch : c.H (i + d + 1) b = c.H (i + d) b := Classical.byContradiction hch
        refine ⟨?_, fun hall => ?_⟩
        · simp only [XS]
          split
          · obtain ⟨o', h1, h2⟩ := ih1; exact ⟨o', by rw [patch_keep hch, h1], h2⟩
          · exact ih1
        · rw [hch]; exact ih2 fun j h1 h2 => hall j h1 (by omega)
  obtain ⟨d, rfl⟩ := Nat.le.dest hm
  exact (Bm d).1

theorem TS_read {o : Oper} (ho : ops[i]? = some o) {t : Nat} (ht : looks ops o t) {m : Nat} (hm : i ≤ m) : c.TS S m t = c.T i t := by
  have key : ∀ k, k ≠ i → (ops[k]?).bind (·.dst) = some t → c.B k i ∨ c.B i k := fun k hk hd => by
    obtain ⟨ok, hok, hd⟩ := Option.bind_eq_some_iff.1 hd
    exact c.hct k i ok o t hk hok ho hd (.inr ht)
  have A : ∀ k, k ≤ i → c.TS S k t = c.T k t := by
    intro k
    induction k with
    | zero => intro _; rfl
    | succ k ih =>
      intro hk
      have ih := ih (by omega)
      simp only [TS]
      rw [c.hT k]
      cases hs : S k with
      | true =>
        simp only [if_true]
        cases hd : (ops[k]?).bind (·.dst) with
        | none => simp only [putF]; exact ih
        | some d => simp only [putF]; split <;> simp [ih]
      | false =>
        simp only [Bool.false_eq_true, if_false]
        cases hd : (ops[k]?).bind (·.dst) with
        | none => simp only [putF]; exact ih
        | some d =>
          simp only [putF]
          split
          · rename_i e; subst e
            exact absurd ((key k (by omega) hd).symm) (c.uncmp_lt hS hi hr (by omega) hs)
          · exact ih
  have Bm : ∀ d, c.TS S (i + d) t = c.T i t := by
    intro d
    induction d with
    | zero => exact A i (Nat.le_refl _)
    | succ d ih =>
      rw [← Nat.add_assoc]
      simp only [TS]
      split
      · rename_i hs
        have hd : i + d ≠ i := fun e => by rw [e] at hs; simp_all
        cases hdd : (ops[i + d]?).bind (·.dst) with
        | none => simp only [putF]; exact ih
        | some q =>
          simp only [putF]
          split
          · rename_i e; subst e
            exact absurd ((key _ hd hdd).symm) (c.uncmp_gt hS hi hr (by omega) hs)
          · exact ih
      · exact ih
  obtain ⟨d, rfl⟩ := Nat.le.dest hm
  exact Bm d

variable {S' : Nat → Bool} (hS' : ∀ k, S' k = (S k || k == i))
include hS'

theorem XS_step {X0 : Heap} {m : Nat} (hm : i < m) : c.XS X0 S' m = patch (c.XS X0 S m) (c.H i) (c.H (i + 1)) := by
  have A : ∀ k, k ≤ i → c.XS X0 S' k = c.XS X0 S k := by
    intro k
    induction k with
    | zero => intro _; rfl
    | succ k ih =>
      intro hk
      have : S' k = S k := by rw [hS' k]; have : (k == i) = false := by simp; omega
                              simp [this]
      simp only [XS, this, ih (by omega)]
  have Bm : ∀ d, c.XS X0 S' (i + 1 + d) = patch (c.XS X0 S (i + 1 + d)) (c.H i) (c.H (i + 1)) := by
    intro d
    induction d with
    | zero =>
      have : S' i = true := by simp [hS' i]
      simp only [Nat.add_zero, XS, this, hi, if_true, Bool.false_eq_true, if_false, A i (Nat.le_refl _)]
    | succ d ih =>
      rw [← Nat.add_assoc]
      have hk : S' (i + 1 + d) = S (i + 1 + d) := by
        rw [hS']; have : (i + 1 + d == i) = false := by simp; omega
        simp [this]
      simp only [XS, hk]
      split
      · rename_i hs
        rw [ih]
        funext b
        by_cases h1 : c.chg i b <;> by_cases h2 : c.chg (i + 1 + d) b
        · exfalso
          have hu := c.uncmp_gt hS hi hr (show i < i + 1 + d by omega) hs
          obtain ⟨e1, q1⟩ := c.chg_cases h1
          obtain ⟨e2, q2⟩ := c.chg_cases h2
          have hmn := c.n_mono (show i + 1 ≤ i + 1 + d by omega)
          have hmi := c.n_mono (show i ≤ i + 1 + d by omega)
          have hc := c.hcc i (i + 1 + d) (by omega) e1 e2 hu
          have hc' := c.hcc (i + 1 + d) i (by omega) e2 e1 (fun h => hu h.symm)
          rcases q1 with ⟨w1, l1, _⟩ | q1 <;> rcases q2 with ⟨w2, l2, _⟩ | q2
          · exact hc.1 b (c.hWC _ _ w1) w2
          · omega
          · exact hc'.2.2 b w2 q1
          · omega
        · have h2 : c.H (i + 1 + d + 1) b = c.H (i + 1 + d) b := Classical.byContradiction h2
          rw [patch_keep h2, patch_chg h1, patch_chg h1]
        · have h1 : c.H (i + 1) b = c.H i b := Classical.byContradiction h1
          rw [patch_chg h2, patch_keep h1, patch_chg h2]
        · have h1 : c.H (i + 1) b = c.H i b := Classical.byContradiction h1
          have h2 : c.H (i + 1 + d + 1) b = c.H (i + 1 + d) b := Classical.byContradiction h2
          rw [patch_keep h2, patch_keep h1, patch_keep h1, patch_keep h2]
      · exact ih
  obtain ⟨d, rfl⟩ := Nat.le.dest (Nat.succ_le_of_lt hm)
  exact Bm d

theorem TS_step {m : Nat} (hm : i < m) : c.TS S' m = putF (c.TS S m) ((ops[i]?).bind (·.dst)) (c.r i) := by
  have A : ∀ k, k ≤ i → c.TS S' k = c.TS S k := by
    intro k
    induction k with
    | zero => intro _; rfl
    | succ k ih =>
      intro hk
      have : S' k = S k := by rw [hS' k]; have : (k == i) = false := by simp; omega
                              simp [this]
      simp only [TS, this, ih (by omega)]
  have Bm : ∀ d, c.TS S' (i + 1 + d) = putF (c.TS S (i + 1 + d)) ((ops[i]?).bind (·.dst)) (c.r i) := by
    intro d
    induction d with
    | zero =>
      have : S' i = true := by simp [hS' i]
      simp only [Nat.add_zero, TS, this, hi, if_true, Bool.false_eq_true, if_false, A i (Nat.le_refl _)]
    | succ d ih =>
      rw [← Nat.add_assoc]
      have hk : S' (i + 1 + d) = S (i + 1 + d) := by
        rw [hS']; have : (i + 1 + d == i) = false := by simp; omega
        simp [this]
      simp only [TS, hk]
      split
      · rename_i hs
        rw [ih]
        have hu := c.uncmp_gt hS hi hr (show i < i + 1 + d by omega) hs
        cases h1 : (ops[i]?).bind (·.dst) with
        | none => rfl
        | some d1 =>
          cases h2 : (ops[i + 1 + d]?).bind (·.dst) with
          | none => rfl
          | some d2 =>
            obtain ⟨o1, ho1, h1⟩ := Option.bind_eq_some_iff.1 h1
            obtain ⟨o2, ho2, h2⟩ := Option.bind_eq_some_iff.1 h2
            have hne : d1 ≠ d2 := fun e => hu (c.hct i (i + 1 + d) o1 o2 d1 (by omega) ho1 ho2 h1 (.inl (e ▸ h2)))
            funext t
            simp only [putF]
            by_cases e1 : t = d1 <;> by_cases e2 : t = d2 <;> simp_all
      · exact ih
  obtain ⟨d, rfl⟩ := Nat.le.dest (Nat.succ_le_of_lt hm)
  exact Bm d

end at_i

theorem XS_all {X0 : Heap} {m : Nat} (hS : ∀ k, k < m → S k = true) (hU : ∀ k b, k < m → b < c.n 0 → c.chg k b → c.H (k + 1) b ≠ none → X0 b = c.H 0 b) (hN : ∀ b, c.n 0 ≤ b → b < c.n m → X0 b = none) :
    ∀ k, k ≤ m → c.XS X0 S k = patch X0 (c.H 0) (c.H k) := by
  intro k
  induction k with
  | zero => intro _; exact (patch_self _ _).symm
  | succ k ih =>
    intro hk
    simp only [XS, hS k (by omega), if_true, ih (by omega)]
    funext b
    by_cases hch : c.chg k b
    · rw [patch_chg hch]
      by_cases he : c.H (k + 1) b = c.H 0 b
      · rw [patch_keep he, he]
        by_cases hb : b < c.n 0
        · cases h1 : c.H (k + 1) b with
          | none =>
            exact absurd ((c.none_stays (Nat.zero_le _) hb (he ▸ h1)).trans (c.none_stays (Nat.zero_le _) hb (he ▸ h1)).symm) hch
          | some o => exact (hU k b (by omega) hb hch (by simp [h1])).symm
        · have hlt : b < c.n m := by
            obtain ⟨_, q⟩ := c.chg_cases hch
            have := c.n_mono (show k + 1 ≤ m by omega)
            have := c.n_mono (show k ≤ m by omega)
            rcases q with ⟨_, q, _⟩ | q <;> omega
          rw [hN b (by omega) hlt, c.fresh 0 b (by omega)]
      · rw [patch_chg he]
    · have hch : c.H (k + 1) b = c.H k b := Classical.byContradiction hch
      rw [patch_keep hch]
      simp only [patch]; rw [hch]

theorem TS_all {m : Nat} (hS : ∀ k, k < m → S k = true) : ∀ k, k ≤ m → c.TS S k = c.T k := by
  intro k
  induction k with
  | zero => intro _; rfl
  | succ k ih => intro hk; simp only [TS, hS k (by omega), if_true, ih (by omega), c.hT]

end Canon
end Go.Abs

namespace Go.Abs
open Go

abbrev Full : Nat → Prop := fun _ => True

/-- The marks among the deferred calls: their blocks are kept, and nobody sees them. -/
def Marks (m : Nat) (x : Ctx) (ds : List Deferred) : Prop :=
  m ≤ x.w.heap.size ∧ ∃ bl : List Nat, ds = bl.map (fun r => { target := .collected r, args := #[] }) ∧ bl.Nodup ∧ ∀ r ∈ bl, m ≤ r ∧ x.Z r ∧ ¬ x.V r ∧ x.w.heap[r]? = some (.deferred (some []))

theorem Marks.nil {m : Nat} {x : Ctx} (h : m ≤ x.w.heap.size) : Marks m x [] := ⟨h, [], rfl, List.nodup_nil, fun r h => by cases h⟩
theorem Marks.ext {m : Nat} {x x' : Ctx} {ds : List Deferred} (h : Marks m x ds) (hW : RelW x) (e : Ext x x') : Marks m x' ds := by
  obtain ⟨h0, bl, h1, h2, h3⟩ := h
  refine ⟨Nat.le_trans h0 e.world.size, bl, h1, h2, fun r hr => ?_⟩
  obtain ⟨k1, k2, k3, k4⟩ := h3 r hr
  exact ⟨k1, e.Z r k2, fun hv => k3 (e.V.2 r k2 hv), (e.keep r k2).trans k4⟩

/-- What holds between two operations. -/
structure SOk (E : Env) (N : Nat) (x : Ctx) (a : Act) (T : Nat → AV) (H : Heap) : Prop where
  W : RelW x
  G : GOk E x
  T : RelF x N T a
  A : AgS Full Full x H
  D : Marks E.base x a.defers

/-- From x to x', as from H to H'. -/
structure Moved (x x' : Ctx) (H : Heap) (n : Nat) (H' : Heap) (n' : Nat) : Prop where
  E : Ext x x'
  H : x'.H = patch x.H H H'
  U : ∀ b, x'.used b → x.used b ∨ (n ≤ b ∧ b < n')

theorem agree_patch {x x' : Ctx} {H H' : Heap} {n n' : Nat} (hA : AgS Full Full x H) (hf : ∀ b, n ≤ b → H b = none) (hm : Moved x x' H n H' n') : AgS Full Full x' H' := by
  have h1 : ∀ b, Full b → x'.used b → H' b ≠ none → x'.H b = H' b := fun b _ hu hne => by
    rw [hm.H]
    by_cases he : H' b = H b
    · rw [patch_keep he, he]
      rcases hm.U b hu with hu | hu
      · exact hA.cont b trivial hu (he ▸ hne)
      · exact absurd (he.trans (hf b hu.1)) hne
    · rw [patch_chg he]
  exact ⟨h1, fun b o _ hu ho => ⟨o, by rw [h1 b trivial hu (by simp [ho]), ho], o.like_refl⟩⟩

theorem countP_lt {α : Type} {p q : α → Bool} : ∀ {l : List α} (i : α), i ∈ l → p i = true → q i = false → (∀ k ∈ l, q k = true → p k = true) → l.countP q < l.countP p
  | a :: l, i, hi, hp, hq, h => by
    have hle : l.countP q ≤ l.countP p := List.countP_mono_left fun k hk => h k (List.mem_cons_of_mem _ hk)
    rcases List.mem_cons.1 hi with rfl | hi
    · simp [List.countP_cons, hp, hq]; omega
    · have := countP_lt i hi hp hq fun k hk => h k (List.mem_cons_of_mem _ hk)
      have hh := h a (List.mem_cons_self ..)
      simp only [List.countP_cons]
      cases hqa : q a <;> cases hpa : p a <;> simp_all <;> omega

section
variable {E : Env} {ro : Option Nat} {ops : Array Oper} {N : Nat}

theorem yielded_of {x : Ctx} {T : Nat → AV} {a : Act} {j d : Nat} {t : Bool} (hd : (ops[j]?).bind (·.dst) = some d) (hr : Rel x (.bool t) (a.tmps.getD d undef)) : yielded ops a.tmps j = some t := by
  generalize hv : a.tmps.getD d undef = v at hr
  cases hr
  have hlt : d < a.tmps.size := by
    refine Classical.byContradiction fun h => ?_
    simp [Array.getD_eq_getD_getElem?, Array.getElem?_eq_none (Nat.le_of_not_lt h), undef] at hv
  simp only [yielded, hd, Option.bind_some]
  have : a.tmps[d]? = some (.bool t) := by
    simp [Array.getD_eq_getD_getElem?, hlt] at hv
    simp [hlt, hv]
  rw [this]

theorem yielded_guard {x : Ctx} {v : AV} {a : Act} {j d : Nat} {w ex : Bool} (hd : (ops[j]?).bind (·.dst) = some d) (hr : Rel x v (a.tmps.getD d undef)) (hg : GuardAt v w ex) : (yielded ops a.tmps j == some w) = ex := by
  rcases hg with ⟨t, rfl, rfl⟩ | ⟨vs, rfl, rfl⟩
  · rw [yielded_of (x := x) (T := fun _ => .any) hd hr]
    cases t <;> cases w <;> rfl
  · have hy : yielded ops a.tmps j = none := by
      generalize hv : a.tmps.getD d undef = u at hr
      cases hr
      simp only [yielded, hd, Option.bind_some]
      cases hq : a.tmps[d]? with
      | none => rfl
      | some q =>
        have : q = .tuple vs := by simpa [Array.getD_eq_getD_getElem?, hq] using hv
        subst this; rfl
    rw [hy]; rfl

variable (c : Canon E ro ops)

/-- One operation, in whatever order. -/
theorem step_one {i : Nat} {o : Oper} (ho : ops[i]? = some o) {x : Ctx} {a : Act} (hW : RelW x) (hG : GOk E x) (hT : ∀ t, looks ops o t → Rel x (c.T i t) (a.tmps.getD t undef))
    (hA : c.ex i = true → AgS (c.C i) (c.L i) x (c.H i)) (hN : ∀ b, c.n i ≤ b → b < c.n (i + 1) → ¬ x.used b) {K : Act → World → Prop} {Q : Exit → Act → World → Prop}
    (hK : ∀ v x', RelW x' → Ext x x' → Rel x' (c.r i) v → x'.H = patch x.H (c.H i) (c.H (i + 1)) → (∀ b, x'.used b → x.used b ∨ (c.n i ≤ b ∧ b < c.n (i + 1))) → K (a.put o.dst v) x'.w) :
    wpOpIn (fence ro) 0 E.P ops Q i K a x.w := by
  unfold wpOpIn
  rw [ho]
  simp only
  obtain ⟨g1, g2⟩ := c.hg i o ho
  have hwant : Region.wanted o (yielded ops a.tmps) = c.ex i := by
    unfold Region.wanted
    cases hgd : o.guard with
    | none => exact (g1 hgd).symm
    | some jw =>
      obtain ⟨j, w⟩ := jw
      obtain ⟨d, h1, h2⟩ := g2 j w hgd
      exact yielded_guard h1 (hT d (.inr ⟨j, w, hgd, h1⟩)) h2
  rw [hwant]
  cases hex : c.ex i with
  | true =>
    simp only [if_true]
    refine c.good i o ho hex x a hW hG (fun p hp => RelF.evalT hG fun t ht => hT t (.inl (ht ▸ hp))) (hA hex) hN K Q hK
  | false =>
    simp only [Bool.false_eq_true, if_false]
    obtain ⟨h1, h2, h3⟩ := c.hx i hex
    exact ⟨fun _ _ => trivial, hK undef x hW (Ext.refl x) (by rw [h3]; exact Rel.raw undef) (by rw [h1, patch_self]) fun b hb => .inl hb⟩

def envBase {E : Env} {ro : Option Nat} {ops : Array Oper} (_ : Canon E ro ops) : Nat := E.base

structure At (X0 : Ctx) (S : Nat → Bool) (x : Ctx) (a : Act) : Prop where
  W : RelW x
  G : GOk E x
  E : Ext X0 x
  T : RelF x N (c.TS S ops.size) a
  D : Marks (envBase c) x a.defers
  H : x.H = c.XS X0.H S ops.size
  U : ∀ b, x.used b → X0.used b ∨ ∃ k, k < ops.size ∧ S k = true ∧ c.n k ≤ b ∧ b < c.n (k + 1)
  V : ∀ k b, S k = true → b < c.n 0 → c.chg k b → c.H (k + 1) b ≠ none → X0.used b

theorem put_defers (a : Act) (d : Option Tmp) (v : Value) : (a.put d v).defers = a.defers := by cases d <;> rfl

/-- A step keeps what holds. -/
theorem At.step {X0 x : Ctx} (hW0 : RelW X0) {a : Act} {S S' : Nat → Bool} {i : Nat} {o : Oper} (hdst : ∀ (i : Nat) (o : Oper) (d : Nat), ops[i]? = some o → o.dst = some d → d < N)
    (h : At (N := N) c X0 S x a) (h0 : AgS Full Full X0 (c.H 0)) (hN0 : ∀ b, c.n 0 ≤ b → b < c.n ops.size → ¬ X0.used b) (hS : Canon.Closed (ops := ops) S) (hi : S i = false) (ho : ops[i]? = some o)
    (hr : ∀ o e, ops[i]? = some o → e ∈ o.after → Region.binds .any e = true → S e.on = true) (hS' : ∀ k, S' k = (S k || k == i)) {K : Act → World → Prop} {Q : Exit → Act → World → Prop}
    (hK : ∀ x' a', At (N := N) c X0 S' x' a' → K a' x'.w) : wpOpIn (fence ro) 0 E.P ops Q i K a x.w := by
  have him : i < ops.size := (Array.getElem?_eq_some_iff.1 ho).1
  -- names
  have hun : ∀ b, x.used b → ∀ k, k < ops.size → S k = false → ¬ (c.n k ≤ b ∧ b < c.n (k + 1)) := fun b hu k hk hs hkb => by
    rcases h.U b hu with hu0 | ⟨k', hk', hs', hb1, hb2⟩
    · exact hN0 b (Nat.le_trans (c.n_mono (Nat.zero_le k)) hkb.1) (Nat.lt_of_lt_of_le hkb.2 (c.n_mono (by omega))) hu0
    · have hne : k' ≠ k := fun e => by rw [e, hs] at hs'; cases hs'
      rcases Nat.lt_or_ge k' k with hlt | hge
      · have := c.n_mono (show k' + 1 ≤ k by omega); omega
      · have := c.n_mono (show k + 1 ≤ k' by omega); omega
  have hbase : ∀ b, x.used b → c.H i b ≠ none → X0.H b = c.H 0 b := fun b hu hne => by
    by_cases hu0 : X0.used b
    · by_cases h00 : c.H 0 b = none
      · have hb : b < c.n i := Classical.byContradiction fun hh => hne (c.fresh i b (by omega))
        have hb0 : b < c.n 0 := Classical.byContradiction fun hh => hN0 b (by omega) (Nat.lt_of_lt_of_le hb (c.n_mono (by omega))) hu0
        exact absurd (c.none_stays (Nat.zero_le i) hb0 h00) hne
      · exact h0.cont b trivial hu0 h00
    · rw [unused_none hW0 hu0]
      rcases h.U b hu with q | ⟨k, hk, hs, hb1, hb2⟩
      · exact absurd q hu0
      · exact (c.fresh 0 b (Nat.le_trans (c.n_mono (Nat.zero_le k)) hb1)).symm
  have hA : c.ex i = true → AgS (c.C i) (c.L i) x (c.H i) := fun hex => by
    refine ⟨fun b hC hu hne => ?_, fun b o' hL hu ho' => ?_⟩
    · rw [h.H]; exact c.XS_cont hS hi hr hex hC hne (fun k hk hs => hun b hu k (by omega) hs) (hbase b hu hne) (by omega)
    · rw [h.H]; exact c.XS_like hS hi hr hex hL ho' (fun k hk hs => hun b hu k (by omega) hs) (hbase b hu (by simp [ho'])) (by omega)
  refine step_one c ho h.W h.G (fun t ht => ?_) hA (fun b h1 h2 hu => hun b hu i him hi ⟨h1, h2⟩) fun v x' k1 k2 k3 k4 k5 => hK x' _ ?_
  · rw [← c.TS_read hS hi hr ho ht (Nat.le_of_lt him)]; exact h.T.2 t
  have hXS := c.XS_step hS hi hr hS' (X0 := X0.H) him
  have hTS := c.TS_step hS hi hr hS' him
  refine ⟨k1, h.G.ext k2, h.E.trans k2, ?_, by rw [put_defers]; exact h.D.ext h.W k2, ?_, ?_, ?_⟩
  · rw [hTS, ho]
    exact (h.T.ext k2).put (fun t ht => hdst i o t ho ht) k3
  · rw [hXS, k4, h.H]
  · intro b hb
    rcases k5 b hb with hb | hb
    · rcases h.U b hb with q | ⟨k, hk, hs, q⟩
      · exact .inl q
      · exact .inr ⟨k, hk, by rw [hS']; simp [hs], q⟩
    · exact .inr ⟨i, him, by rw [hS']; simp, hb⟩
  · intro k b hs hb hch hne
    rw [hS'] at hs
    by_cases hki : k = i
    · subst hki
      have hx' : x'.H b = c.H (k + 1) b := by rw [k4, patch_chg hch]
      cases ho' : c.H (k + 1) b with
      | none => exact absurd ho' hne
      | some ob =>
        have hu' := (k1.live b ob (hx'.trans ho')).1
        have hge := c.n_mono (Nat.zero_le k)
        rcases k5 b hu' with q | q
        · rcases h.U b q with q | ⟨k', hk', hs', q1, q2⟩
          · exact q
          · have := c.n_mono (Nat.zero_le k'); omega
        · omega
    · have : (k == i) = false := by simpa using hki
      rw [this, Bool.or_false] at hs
      exact h.V k b hs hb hch hne

theorem all_of_ready_nil {listed : Array Bool} (hsz : listed.size = ops.size) (hdep : ∀ i o e, ops[i]? = some o → e ∈ o.after → Region.binds .any e = true → e.on < i) (hr : Region.ready .any ops listed = []) :
    ∀ i, i < ops.size → listed.getD i false = true := by
  intro i
  induction i using Nat.strongRecOn with
  | _ i ih =>
    intro hi
    refine Classical.byContradiction fun hn => ?_
    have hmem : i ∈ Region.ready .any ops listed := by
      rw [mem_ready]
      have hl : i < listed.size := by omega
      refine ⟨?_, ops[i], by simp [hi], fun e he hb => ?_⟩
      · simp [Array.getD_eq_getD_getElem?, hl] at hn ⊢; exact hn
      · have hlt := hdep i ops[i] e (by simp [hi]) he hb
        exact ih _ hlt (by omega)
    rw [hr] at hmem
    cases hmem

/-- A REGION THAT DRAWS ITS ORDER ENDS AS THE TEXT'S ORDER DOES. -/
theorem wpAny_canon {X0 : Ctx} (hW0 : RelW X0) (hdst : ∀ (i : Nat) (o : Oper) (d : Nat), ops[i]? = some o → o.dst = some d → d < N) (h0 : AgS Full Full X0 (c.H 0)) (hN0 : ∀ b, c.n 0 ≤ b → b < c.n ops.size → ¬ X0.used b)
    {Q : Exit → Act → World → Prop} (hQ : ∀ x a, SOk E N x a (c.T ops.size) (c.H ops.size) → Moved X0 x (c.H 0) (c.n 0) (c.H ops.size) (c.n ops.size) → Q .normal a x.w) :
    ∀ fuel (listed : Array Bool) x a, listed.size = ops.size → Canon.Closed (ops := ops) (fun k => listed.getD k false) → At (N := N) c X0 (fun k => listed.getD k false) x a →
      (List.range ops.size).countP (fun i => !listed.getD i false) ≤ fuel → wpAnyIn (fence ro) 0 E.P .any ops Q fuel listed a x.w := by
  have fin : ∀ (listed : Array Bool) x a, listed.size = ops.size → At (N := N) c X0 (fun k => listed.getD k false) x a → (∀ i, i < ops.size → listed.getD i false = true) → Q .normal a x.w := by
    intro listed x a hsz h hall
    have hT := c.TS_all (S := fun k => listed.getD k false) hall ops.size (Nat.le_refl _)
    have hH := c.XS_all (S := fun k => listed.getD k false) (X0 := X0.H) hall (fun k b hk hb hch hne => by
      have hu := h.V k b (hall k hk) hb hch hne
      have : c.H 0 b ≠ none := fun hn => hne (c.none_stays (Nat.zero_le _) hb hn)
      exact h0.cont b trivial hu this) (fun b h1 h2 => unused_none hW0 (hN0 b h1 h2)) ops.size (Nat.le_refl _)
    have hm : Moved X0 x (c.H 0) (c.n 0) (c.H ops.size) (c.n ops.size) := ⟨h.E, h.H.trans hH, fun b hb => by
      rcases h.U b hb with q | ⟨k, hk, hs, q1, q2⟩
      · exact .inl q
      · exact .inr ⟨Nat.le_trans (c.n_mono (Nat.zero_le _)) q1, Nat.lt_of_lt_of_le q2 (c.n_mono (by omega))⟩⟩
    exact hQ x a ⟨h.W, h.G, hT ▸ h.T, agree_patch h0 (c.fresh 0) hm, h.D⟩ hm
  intro fuel
  induction fuel with
  | zero =>
    intro listed x a hsz hS h hc
    have hall : ∀ i, i < ops.size → listed.getD i false = true := fun i hi => by
      have := List.countP_eq_zero.1 (Nat.le_zero.1 hc) i (List.mem_range.2 hi)
      simpa using this
    refine ⟨?_, fin listed x a hsz h hall⟩
    refine List.eq_nil_iff_forall_not_mem.2 fun i hi => ?_
    obtain ⟨h1, o, ho, _⟩ := mem_ready.1 hi
    have hi' : i < ops.size := (Array.getElem?_eq_some_iff.1 ho).1
    have := hall i hi'
    have hl : i < listed.size := by omega
    simp [Array.getD_eq_getD_getElem?, hl] at h1 this
    rw [h1] at this; cases this
  | succ fuel ih =>
    intro listed x a hsz hS h hc
    refine ⟨fun hr => fin listed x a hsz h (all_of_ready_nil hsz c.hdep hr), fun i hi => ?_⟩
    obtain ⟨h1, o, ho, hall⟩ := mem_ready.1 hi
    have him : i < ops.size := (Array.getElem?_eq_some_iff.1 ho).1
    have hl : i < listed.size := by omega
    have hif : listed.getD i false = false := by simp [Array.getD_eq_getD_getElem?, hl] at h1 ⊢; exact h1
    have hset : ∀ k, (listed.setIfInBounds i true).getD k false = (listed.getD k false || k == i) := fun k => by
      by_cases hk : k = i
      · subst hk; simp [Array.getD_eq_getD_getElem?, hl]
      · rw [getD_set_ne false (Ne.symm hk)]; have : (k == i) = false := by simpa using hk
        rw [this, Bool.or_false]
    have hr : ∀ o' e, ops[i]? = some o' → e ∈ o'.after → Region.binds .any e = true → listed.getD e.on false = true := fun o' e ho' he hb => by
      rw [ho] at ho'; cases ho'; exact hall e he hb
    refine At.step c hW0 hdst h h0 hN0 hS hif ho hr hset fun x' a' h' => ih _ x' a' (by simp [hsz]) ?_ h' ?_
    · refine ⟨fun k o' e hk ho' he hb => ?_⟩
      rw [hset] at hk ⊢
      by_cases hki : k = i
      · subst hki; simp only [Bool.or_eq_true]; exact .inl (hr o' e ho' he hb)
      · have : (k == i) = false := by simpa using hki
        rw [this, Bool.or_false] at hk
        simp only [Bool.or_eq_true]; exact .inl (hS.down k o' e hk ho' he hb)
    · have hlt : (List.range ops.size).countP (fun k => !(listed.setIfInBounds i true).getD k false) < (List.range ops.size).countP (fun k => !listed.getD k false) := by
        refine countP_lt i (List.mem_range.2 him) (by simp [hif]) (by simp [hset]) fun k _ hk => ?_
        rw [hset] at hk
        simp only [Bool.not_eq_true', Bool.or_eq_false_iff] at hk ⊢
        exact hk.1
      omega

theorem wpIn_canon {id : Nat} {x : Ctx} {a : Act} (hmix : E.P.follows .mixedOrders = true) (hdst : ∀ (i : Nat) (o : Oper) (d : Nat), ops[i]? = some o → o.dst = some d → d < N) (hs : SOk E N x a (c.T 0) (c.H 0)) (hN0 : ∀ b, c.n 0 ≤ b → b < c.n ops.size → ¬ x.used b)
    {Q : Exit → Act → World → Prop} (hQ : ∀ x' a', SOk E N x' a' (c.T ops.size) (c.H ops.size) → Moved x x' (c.H 0) (c.n 0) (c.H ops.size) (c.n ops.size) → Q .normal a' x'.w) :
    (Code.region id ops true).wpIn (fence ro) 0 E.P Q a x.w := by
  refine wpIn_region_any hmix ?_
  obtain ⟨d1, d2⟩ := hs.W.drew
  have hA : AgS Full Full { x with w := x.w.drew } (c.H 0) := ⟨hs.A.cont, hs.A.like⟩
  have := wpAny_canon (Q := Q) (N := N) c d1 hdst hA hN0 (fun x' a' h1 h2 => hQ x' a' h1 ⟨d2.trans h2.E, h2.H, h2.U⟩) ops.size (Array.replicate ops.size false) { x with w := x.w.drew } a (by simp) ?_ ?_ ?_
  · exact this
  · exact ⟨fun i o e hi => by simp [Array.getD_eq_getD_getElem?, Array.getElem?_replicate] at hi; split at hi <;> simp at hi⟩
  · have hfalse : (fun k => (Array.replicate ops.size false).getD k false) = fun _ => false := by
      funext k; simp [Array.getD_eq_getD_getElem?, Array.getElem?_replicate]; split <;> simp
    rw [hfalse]
    have hX : ∀ X0 : Heap, ∀ k, c.XS X0 (fun _ => false) k = X0 := fun X0 k => by induction k with
      | zero => rfl
      | succ k ih => simpa [Canon.XS] using ih
    have hT : ∀ k, c.TS (fun _ => false) k = c.T 0 := fun k => by induction k with
      | zero => rfl
      | succ k ih => simpa [Canon.TS] using ih
    refine ⟨d1, hs.G.ext d2, Ext.refl _, ?_, hs.D.ext hs.W d2, ?_, fun b hb => .inl hb, fun k b h => by cases h⟩
    · rw [hT]; exact hs.T.ext d2
    · rw [hX]
  · exact Nat.le_trans (List.countP_le_length) (by simp)

end
end Go.Abs

namespace Go.Abs
open Go

structure St where
  T : Nat → AV
  H : Heap
  n : Nat

/-- The names from n on are free; H' grows out of H. -/
structure Grow (H : Heap) (n : Nat) (H' : Heap) (n' : Nat) : Prop where
  le : n ≤ n'
  fresh : ∀ b, n' ≤ b → H' b = none
  new : ∀ b, H b = none → H' b ≠ none → n ≤ b

def Fresh (H : Heap) (n : Nat) : Prop := ∀ b, n ≤ b → H b = none

theorem Grow.refl {H : Heap} {n : Nat} (hf : Fresh H n) : Grow H n H n := ⟨Nat.le_refl _, hf, fun b h h' => absurd h h'⟩
theorem Grow.trans {H H' H'' : Heap} {n n' n'' : Nat} (h : Grow H n H' n') (k : Grow H' n' H'' n'') : Grow H n H'' n'' :=
  ⟨Nat.le_trans h.le k.le, k.fresh, fun b h0 h2 => by
    cases h1 : H' b with
    | none => exact Nat.le_trans h.le (k.new b h1 h2)
    | some o => exact h.new b h0 (by simp [h1])⟩

theorem Moved.refl {x : Ctx} {H : Heap} {n : Nat} : Moved x x H n H n := ⟨Ext.refl x, (patch_self _ _).symm, fun b h => .inl h⟩

theorem Moved.trans {x y z : Ctx} {H H' H'' : Heap} {n n' n'' : Nat} (hx : RelW x) (hz : RelW z) (hA : AgS Full Full x H) (hf : Fresh H n) (hu : ∀ b, n ≤ b → b < n'' → ¬ x.used b) (g : Grow H n H' n') (g' : Grow H' n' H'' n'')
    (h : Moved x y H n H' n') (k : Moved y z H' n' H'' n'') : Moved x z H n H'' n'' := by
  refine ⟨h.E.trans k.E, ?_, fun b hb => ?_⟩
  · funext b
    rw [k.H]
    by_cases h2 : H'' b = H' b
    · rw [patch_keep h2, h.H]
      simp only [patch]; rw [h2]
    · rw [patch_chg h2]
      by_cases h0 : H'' b = H b
      · rw [patch_keep h0]
        cases h3 : H'' b with
        | some o =>
          have hzb : z.H b = some o := by rw [k.H, patch_chg h2, h3]
          have hub := (hz.live b o hzb).1
          have hne : H b ≠ none := by rw [← h0, h3]; simp
          have hux : x.used b := by
            rcases k.U b hub with q | q
            · rcases h.U b q with q | q
              · exact q
              · exact absurd (hf b q.1) hne
            · exact absurd (hf b (Nat.le_trans g.le q.1)) hne
          rw [hA.cont b trivial hux hne, ← h0, h3]
        | none =>
          have hH : H b = none := by rw [← h0, h3]
          have hH' : H' b ≠ none := fun e => h2 (by rw [h3, e])
          have hge := g.new b hH hH'
          have hlt : b < n' := Classical.byContradiction fun hh => hH' (g.fresh b (by omega))
          exact (unused_none hx (hu b hge (Nat.lt_of_lt_of_le hlt g'.le))).symm
      · rw [patch_chg h0]
  · rcases k.U b hb with q | q
    · rcases h.U b q with q | q
      · exact .inl q
      · exact .inr ⟨q.1, Nat.lt_of_lt_of_le q.2 g'.le⟩
    · exact .inr ⟨Nat.le_trans g.le q.1, q.2⟩

/-- The fresh names stay so. -/
theorem Moved.unused {x y : Ctx} {H H' : Heap} {n n' m : Nat} (h : Moved x y H n H' n') (hu : ∀ b, n ≤ b → b < m → ¬ x.used b) (hl : n ≤ n') : ∀ b, n' ≤ b → b < m → ¬ y.used b := fun b h1 h2 h3 => by
  rcases h.U b h3 with q | q
  · exact hu b (by omega) h2 q
  · omega

/-- CODE DOES THIS: from s it comes to s', and goes out by 'out'. -/
structure Big (E : Env) (ro : Option Nat) (N : Nat) (c : Code) (s : St) (out : Exit) (s' : St) : Prop where
  g : Fresh s.H s.n → Grow s.H s.n s'.H s'.n
  run : Fresh s.H s.n → ∀ x a, SOk E N x a s.T s.H → (∀ b, s.n ≤ b → b < s'.n → ¬ x.used b) → ∀ Q : Exit → Act → World → Prop,
    (∀ x' a', SOk E N x' a' s'.T s'.H → Moved x x' s.H s.n s'.H s'.n → Q out a' x'.w) → c.wpIn (fence ro) 0 E.P Q a x.w

section
variable {E : Env} {ro : Option Nat} {N : Nat} {s s1 s' : St} {out : Exit}

theorem Big.skip : Big E ro N .skip s .normal s := ⟨.refl, fun _ x a h _ Q hQ => wpIn_skip (hQ x a h .refl)⟩
theorem Big.label {l : Nat} : Big E ro N (.label l) s .normal s := ⟨.refl, fun _ x a h _ Q hQ => wpIn_label (hQ x a h .refl)⟩
theorem Big.exit {id : Nat} : Big E ro N (.exit id) s (.exit id) s := ⟨.refl, fun _ x a h _ Q hQ => wpIn_exit (hQ x a h .refl)⟩
theorem Big.goto {l : Nat} : Big E ro N (.goto l) s (.goto l) s := ⟨.refl, fun _ x a h _ Q hQ => wpIn_goto (hQ x a h .refl)⟩
theorem Big.ret : Big E ro N .ret s .ret s := ⟨.refl, fun _ x a h _ Q hQ => wpIn_ret (hQ x a h .refl)⟩

theorem Big.seq {c d : Code} (h : Big E ro N c s .normal s1) (k : Big E ro N d s1 out s') : Big E ro N (.seq c d) s out s' := by
  refine ⟨fun hf => (h.g hf).trans (k.g (h.g hf).fresh), fun hf x a ho hu Q hQ => wpIn_seq ?_⟩
  have g := h.g hf
  have g' := k.g g.fresh
  refine h.run hf x a ho (fun b h1 h2 => hu b h1 (Nat.lt_of_lt_of_le h2 g'.le)) _ fun x1 a1 ho1 hm1 => ?_
  exact k.run g.fresh x1 a1 ho1 (hm1.unused hu g.le) Q fun x2 a2 ho2 hm2 => hQ x2 a2 ho2 (Moved.trans ho.W ho2.W ho.A hf hu g g' hm1 hm2)

theorem Big.seq_out {c d : Code} (h : Big E ro N c s out s') (hne : out ≠ .normal) : Big E ro N (.seq c d) s out s' := by
  refine ⟨h.g, fun hf x a ho hu Q hQ => wpIn_seq (h.run hf x a ho hu _ fun x1 a1 ho1 hm1 => ?_)⟩
  have := hQ x1 a1 ho1 hm1
  cases out <;> first | exact absurd rfl hne | exact this

theorem Big.cond {c d : Code} {o : Operand} {t : Bool} (ht : aevalF E.G s.T o = .bool t) (h : Big E ro N (if t then c else d) s out s') : Big E ro N (.cond o c d) s out s' := by
  refine ⟨h.g, fun hf x a ho hu Q hQ => ?_⟩
  have hr := RelF.evalT (o := o) (T := s.T) (a := a) ho.G fun t _ => ho.T.2 t
  rw [ht] at hr
  have he : a.eval o = .bool t := by generalize a.eval o = v at hr; cases hr; rfl
  exact wpIn_cond he (h.run hf x a ho hu Q hQ)

def blockOut (id : Nat) : Exit → Exit
  | .exit id' => if id' = id then .normal else .exit id'
  | e => e

theorem Big.block {c : Code} {id : Nat} (h : Big E ro N c s out s') : Big E ro N (.block id c) s (blockOut id out) s' := by
  refine ⟨h.g, fun hf x a ho hu Q hQ => wpIn_block (h.run hf x a ho hu _ fun x1 a1 ho1 hm1 => ?_)⟩
  have := hQ x1 a1 ho1 hm1
  cases out <;> simp only [Exit.inBlock, blockOut] at this ⊢ <;> try exact this
  split <;> simp_all

/-! A loop, a round at a time. -/
def LoopWp (F : Fence) (n : Nat) (P : Program) (c : Code) (Q : Exit → Act → World → Prop) (a : Act) (w : World) : Prop :=
  ∀ (b : Frame) (k : List Item) (cs : List Frame), b.roundOf = F.round → F.fn b.fn → F.room (cs.length + 1 + n) →
    ∃ e a' w', Q e a' w' ∧ ArrivesIn (Machine.fenced P F) P (lone (b.atR a (.code c :: .inLoop c :: k)) cs w) b k cs e a' w'

theorem loopWp_round {F : Fence} {n : Nat} {P : Program} {c : Code} {Q : Exit → Act → World → Prop} {a : Act} {w : World} (h : c.wpIn F n P (Exit.then (LoopWp F n P c Q) Q) a w) : LoopWp F n P c Q a w := by
  intro b k cs hro hb hr
  obtain ⟨e, a₁, w₁, hq, harr⟩ := h b (.inLoop c :: k) cs hro hb hr
  cases e with
  | normal =>
    obtain ⟨e₂, a₂, w₂, hq₂, harr₂⟩ := hq b k cs hro hb hr
    exact ⟨e₂, a₂, w₂, hq₂, .of_steps (StepsIn.trans harr (.one (fenced_calm hb hr rfl) stepR_inLoop)) harr₂⟩
  | exit id => exact ⟨_, a₁, w₁, hq, .pass (x := .inLoop c) rfl (fun _ _ => .inl (by simp)) harr⟩
  | goto l => exact ⟨_, a₁, w₁, hq, .pass (x := .inLoop c) rfl (fun _ _ => .inl (by simp)) harr⟩
  | ret => exact ⟨_, a₁, w₁, hq, .pass (x := .inLoop c) rfl (fun _ _ => .inl (by simp)) harr⟩
  | panic ch => exact ⟨_, a₁, w₁, hq, .pass (x := .inLoop c) rfl (fun _ _ => .inl (by simp)) harr⟩
  | outgrown => exact ⟨_, a₁, w₁, hq, .pass (x := .inLoop c) rfl (fun _ _ => .inl (by simp)) harr⟩

theorem loopWp_loop {F : Fence} {n : Nat} {P : Program} {c : Code} {Q : Exit → Act → World → Prop} {a : Act} {w : World} (h : LoopWp F n P c Q a w) : (Code.loop c).wpIn F n P Q a w := by
  intro b k cs hro hb hr
  obtain ⟨e, a', w', hq, harr⟩ := h b k cs hro hb hr
  exact ⟨e, a', w', hq, .of_steps (.one (fenced_calm hb hr rfl) stepR_loop) harr⟩

structure BigL (E : Env) (ro : Option Nat) (N : Nat) (c : Code) (s : St) (out : Exit) (s' : St) : Prop where
  g : Fresh s.H s.n → Grow s.H s.n s'.H s'.n
  run : Fresh s.H s.n → ∀ x a, SOk E N x a s.T s.H → (∀ b, s.n ≤ b → b < s'.n → ¬ x.used b) → ∀ Q : Exit → Act → World → Prop,
    (∀ x' a', SOk E N x' a' s'.T s'.H → Moved x x' s.H s.n s'.H s'.n → Q out a' x'.w) → LoopWp (fence ro) 0 E.P c Q a x.w

theorem BigL.step {c : Code} (h : Big E ro N c s .normal s1) (k : BigL E ro N c s1 out s') : BigL E ro N c s out s' := by
  refine ⟨fun hf => (h.g hf).trans (k.g (h.g hf).fresh), fun hf x a ho hu Q hQ => loopWp_round ?_⟩
  have g := h.g hf
  have g' := k.g g.fresh
  refine h.run hf x a ho (fun b h1 h2 => hu b h1 (Nat.lt_of_lt_of_le h2 g'.le)) _ fun x1 a1 ho1 hm1 => ?_
  exact k.run g.fresh x1 a1 ho1 (hm1.unused hu g.le) Q fun x2 a2 ho2 hm2 => hQ x2 a2 ho2 (Moved.trans ho.W ho2.W ho.A hf hu g g' hm1 hm2)

theorem BigL.last {c : Code} (h : Big E ro N c s out s') (hne : out ≠ .normal) : BigL E ro N c s out s' := by
  refine ⟨h.g, fun hf x a ho hu Q hQ => loopWp_round (h.run hf x a ho hu _ fun x1 a1 ho1 hm1 => ?_)⟩
  have := hQ x1 a1 ho1 hm1
  cases out <;> first | exact absurd rfl hne | exact this

theorem Big.loop {c : Code} (h : BigL E ro N c s out s') : Big E ro N (.loop c) s out s' :=
  ⟨h.g, fun hf x a ho hu Q hQ => loopWp_loop (h.run hf x a ho hu Q hQ)⟩

theorem Big.region_draw {ops : Array Oper} {id : Nat} (c : Canon E ro ops) (hmix : E.P.follows .mixedOrders = true) (hdst : ∀ (i : Nat) (o : Oper) (d : Nat), ops[i]? = some o → o.dst = some d → d < N) :
    Big E ro N (.region id ops true) ⟨c.T 0, c.H 0, c.n 0⟩ .normal ⟨c.T ops.size, c.H ops.size, c.n ops.size⟩ := by
  refine ⟨fun _ => ⟨c.n_mono (Nat.zero_le _), c.fresh _, fun b h0 h1 => ?_⟩, fun hf x a ho hu Q hQ => wpIn_canon c hmix hdst ho hu hQ⟩
  exact Classical.byContradiction fun hh => h1 (c.none_stays (Nat.zero_le _) (Nat.lt_of_not_le hh) h0)

/-- The same, where the order is the text's. -/
structure Line (E : Env) (ro : Option Nat) (ops : Array Oper) where
  T : Nat → Nat → AV
  H : Nat → Heap
  n : Nat → Nat
  r : Nat → AV
  ex : Nat → Bool
  hT : ∀ i, T (i + 1) = putF (T i) ((ops[i]?).bind (·.dst)) (r i)
  hx : ∀ i, ex i = false → H (i + 1) = H i ∧ n (i + 1) = n i ∧ r i = .raw undef
  hg : ∀ i o, ops[i]? = some o → (o.guard = none → ex i = true) ∧ ∀ j w, o.guard = some (j, w) → ∃ d, (ops[j]?).bind (·.dst) = some d ∧ GuardAt (T i d) w (ex i)
  grow : ∀ i, Fresh (H i) (n i) → Grow (H i) (n i) (H (i + 1)) (n (i + 1))
  good : ∀ i o, ops[i]? = some o → ex i = true → Fresh (H i) (n i) → ∀ x a, RelW x → GOk E x → (∀ p ∈ o.op.operands, Rel x (aevalF E.G (T i) p) (a.eval p)) → AgS Full Full x (H i) → (∀ b, n i ≤ b → b < n (i + 1) → ¬ x.used b) →
    GoodN E ro o a x (H i) (n i) (r i) (H (i + 1)) (n (i + 1))

theorem Line.fresh {ops : Array Oper} (c : Line E ro ops) (h0 : Fresh (c.H 0) (c.n 0)) : ∀ i, Grow (c.H 0) (c.n 0) (c.H i) (c.n i) := by
  intro i
  induction i with
  | zero => exact .refl h0
  | succ i ih => exact ih.trans (c.grow i ih.fresh)

theorem Line.step {ops : Array Oper} (c : Line E ro ops) {i : Nat} {o : Oper} (ho : ops[i]? = some o) (hf : Fresh (c.H i) (c.n i)) {x : Ctx} {a : Act} (hW : RelW x) (hG : GOk E x) (hT : ∀ t, Rel x (c.T i t) (a.tmps.getD t undef))
    (hA : AgS Full Full x (c.H i)) (hN : ∀ b, c.n i ≤ b → b < c.n (i + 1) → ¬ x.used b) {K : Act → World → Prop} {Q : Exit → Act → World → Prop}
    (hK : ∀ v x', RelW x' → Ext x x' → Rel x' (c.r i) v → x'.H = patch x.H (c.H i) (c.H (i + 1)) → (∀ b, x'.used b → x.used b ∨ (c.n i ≤ b ∧ b < c.n (i + 1))) → K (a.put o.dst v) x'.w) :
    wpOpIn (fence ro) 0 E.P ops Q i K a x.w := by
  unfold wpOpIn
  rw [ho]
  simp only
  obtain ⟨g1, g2⟩ := c.hg i o ho
  have hwant : Region.wanted o (yielded ops a.tmps) = c.ex i := by
    unfold Region.wanted
    cases hgd : o.guard with
    | none => exact (g1 hgd).symm
    | some jw =>
      obtain ⟨j, w⟩ := jw
      obtain ⟨d, h1, h2⟩ := g2 j w hgd
      exact yielded_guard h1 (hT d) h2
  rw [hwant]
  cases hex : c.ex i with
  | true =>
    simp only [if_true]
    exact c.good i o ho hex hf x a hW hG (fun p hp => RelF.evalT hG fun t ht => hT t) hA hN K Q hK
  | false =>
    simp only [Bool.false_eq_true, if_false]
    obtain ⟨h1, h2, h3⟩ := c.hx i hex
    exact ⟨fun _ _ => trivial, hK undef x hW (Ext.refl x) (by rw [h3]; exact .raw undef) (by rw [h1, patch_self]) fun b hb => .inl hb⟩

theorem Big.region_line {ops : Array Oper} {id : Nat} (c : Line E ro ops) (hdst : ∀ (i : Nat) (o : Oper) (d : Nat), ops[i]? = some o → o.dst = some d → d < N) :
    Big E ro N (.region id ops false) ⟨c.T 0, c.H 0, c.n 0⟩ .normal ⟨c.T ops.size, c.H ops.size, c.n ops.size⟩ := by
  refine ⟨fun hf => c.fresh hf _, fun hf x a ho hu Q hQ => wpIn_region ?_⟩
  have hgr := c.fresh hf
  have key : ∀ d i x' a', i + d = ops.size → SOk E N x' a' (c.T i) (c.H i) → Moved x x' (c.H 0) (c.n 0) (c.H i) (c.n i) → wpOpsIn (fence ro) 0 E.P ops Q (List.range' i d) a' x'.w := by
    intro d
    induction d with
    | zero =>
      intro i x' a' hi ho' hm
      obtain rfl : i = ops.size := by omega
      exact hQ x' a' ho' hm
    | succ d ih =>
      intro i x' a' hi ho' hm
      rw [List.range'_succ, wpOpsIn_cons]
      have hio : ops[i]? = some ops[i] := by simp
      have g1 := c.grow i (hgr i).fresh
      have hle : c.n (i + 1) ≤ c.n ops.size := by
        have : ∀ k, c.n (i + 1) ≤ c.n (i + 1 + k) := fun k => by
          induction k with
          | zero => exact Nat.le_refl _
          | succ k ihk => exact Nat.le_trans ihk (c.grow _ (hgr _).fresh).le
        have := this (ops.size - (i + 1))
        rwa [show i + 1 + (ops.size - (i + 1)) = ops.size by omega] at this
      have hun := hm.unused hu (hgr i).le
      refine c.step hio (hgr i).fresh ho'.W ho'.G (fun t => ho'.T.2 t) ho'.A (fun b h1 h2 => hun b h1 (Nat.lt_of_lt_of_le h2 hle)) fun v x2 k1 k2 k3 k4 k5 => ?_
      have hm1 : Moved x' x2 (c.H i) (c.n i) (c.H (i + 1)) (c.n (i + 1)) := ⟨k2, k4, k5⟩
      refine ih (i + 1) x2 _ (by omega) ⟨k1, ho'.G.ext k2, ?_, agree_patch ho'.A (hgr i).fresh hm1, by rw [put_defers]; exact ho'.D.ext ho'.W k2⟩
        (Moved.trans ho.W k1 ho.A hf (fun b h1 h2 => hu b h1 (Nat.lt_of_lt_of_le h2 hle)) (hgr i) g1 hm hm1)
      rw [c.hT i, hio]
      exact (ho'.T.ext k2).put (fun t ht => hdst i _ t hio ht) k3
  rw [List.range_eq_range']
  exact key ops.size 0 x a (by omega) ho .refl

end
end Go.Abs

namespace Go.Abs
open Go

theorem run_callFunc_body {P : Program} {f : FuncId} {fn : Func} {c : Code} (hf : P.funcs[f]? = some fn) (hb : fn.body = some c) (hn : (fn.name == "runtime.NumGoroutine") = false) (args : Array Value) (w : World) :
    (callFunc f args).run P w = .ok (.enter f args) w := by
  have hn : ¬ fn.name = "runtime.NumGoroutine" := by simpa using hn
  simp [callFunc, hf, hb, hn]

/-- A result of a function. -/
inductive ResOk (P : Program) (T : Nat → AV) (H : Heap) : ResultVar → AV → Prop
  | tmp {t : Nat} : ResOk P T H (.tmp t) (T t)
  | cell {a : Nat} {ty : TypeId} {d : TypeDesc} {i : TypeInfo} {cs : List AV} {off : Nat} (hU : P.underlying ty = some d) (hI : P.info? ty = some i) (h1 : isAggD d = true ∨ i.size = 1)
      (hb : Behind H (T a) cs off) (hl : off + i.size ≤ cs.length) : ResOk P T H (.cell a ty) (ld (isAggD d) (seg cs off i.size))

theorem AgS.behindF {x : Ctx} {H : Heap} (hA : AgS Full Full x H) {a : AV} {v : Value} (hr : Rel x a v) {cs : List AV} {off : Nat} (h : Behind H a cs off) : Behind x.H a cs off := hA.behind (fun _ _ => trivial) hr h

def resSem (tmps : Array Value) : ResultVar → Sem Value
  | .tmp t => pure (tmps.getD t undef)
  | .cell a t => do loadVar t (← asAddr (tmps.getD a undef))

theorem results_eq (fn : Func) (tmps : Array Value) : results fn tmps = (do let vs ← fn.results.mapM (resSem tmps); pure (if h : vs.size = 1 then vs[0] else .tuple vs)) := by
  unfold results
  congr 1

theorem run_result {P : Program} {x : Ctx} {N : Nat} {T : Nat → AV} {H : Heap} {a : Act} (hW : RelW x) (hT : RelF x N T a) (hA : AgS Full Full x H) {rv : ResultVar} {r : AV} (h : ResOk P T H rv r) :
    ∃ v, (resSem a.tmps rv).run P x.w = .ok v x.w ∧ Rel x r v := by
  cases h with
  | tmp => exact ⟨_, rfl, hT.2 _⟩
  | @cell q ty d i cs off hU hI h1 hb hl =>
    have hr := hT.2 q
    have hb' := hA.behindF hr hb
    obtain ⟨blk, o, he, g, hc, hg⟩ := hb'.at hW hr
    refine ⟨_, ?_, Rel.ld (g := fun j => g (off + j)) (seg_length cs off i.size hl) (fun e => h1.resolve_left (by simp [e])) fun j hj => ?_⟩
    · simp only [resSem, he, asAddr, Sem.run_bind, Sem.run_pure, Result.andThen_ok]
      exact run_loadVar hU rfl hI rfl x.w blk (o + off) (fun j => g (off + j)) (fun e => h1.resolve_left (by simp [e])) fun j hj => by rw [Nat.add_assoc]; exact hc _ (by omega)
    · rw [seg_getD _ _ _ _ _ hj]; exact hg _ (by omega)

theorem run_mapM_rel {P : Program} {x : Ctx} {α : Type} {f : α → Sem Value} : ∀ {l : List α} {rs : List AV}, l.length = rs.length → (∀ j (h : j < l.length), ∃ v, (f l[j]).run P x.w = .ok v x.w ∧ Rel x (rs.getD j .any) v) →
    ∃ vs : List Value, (l.mapM f).run P x.w = .ok vs x.w ∧ vs.length = rs.length ∧ ∀ j, j < rs.length → Rel x (rs.getD j .any) (vs.getD j default)
  | [], rs, hl, h => ⟨[], by simp, by simpa using hl, fun j hj => by simp at hl; omega⟩
  | a :: l, [], hl, h => by simp at hl
  | a :: l, r :: rs, hl, h => by
    obtain ⟨v, hv, hr⟩ := h 0 (by simp)
    obtain ⟨vs, hvs, hlen, hrs⟩ := run_mapM_rel (l := l) (rs := rs) (f := f) (P := P) (x := x) (by simpa using hl) fun j hj => by
      have := h (j + 1) (by simpa using hj)
      simpa using this
    refine ⟨v :: vs, ?_, by simp [hlen], fun j hj => ?_⟩
    · simp only [List.getElem_cons_zero] at hv
      simp [List.mapM_cons, hv, hvs]
    · cases j with
      | zero => simpa using hr
      | succ j => simpa using hrs j (by simpa using hj)

def resultAV : List AV → AV
  | [r] => r
  | rs => .tup rs

theorem results_sound {P : Program} {x : Ctx} {N : Nat} {T : Nat → AV} {H : Heap} {a : Act} {fn : Func} (hW : RelW x) (hT : RelF x N T a) (hA : AgS Full Full x H) {rs : List AV} (hl : fn.results.size = rs.length)
    (h : ∀ j (hj : j < fn.results.size), ResOk P T H fn.results[j] (rs.getD j .any)) : ∃ v, (results fn a.tmps).run P x.w = .ok v x.w ∧ Rel x (resultAV rs) v := by
  obtain ⟨vs, h1, h2, h3⟩ := run_mapM_rel (P := P) (x := x) (f := resSem a.tmps) (l := fn.results.toList) (rs := rs) (by simpa using hl) fun j hj => by
    have hj' : j < fn.results.size := by simpa using hj
    have := run_result (a := a) hW hT hA (h j hj')
    simpa using this
  have hm : (fn.results.mapM (resSem a.tmps)).run P x.w = .ok vs.toArray x.w := by
    rw [Array.mapM_eq_mapM_toList]
    simp only [Sem.run_map, h1] <;> rfl
  refine ⟨if h : vs.toArray.size = 1 then vs.toArray[0] else .tuple vs.toArray, ?_, ?_⟩
  · rw [results_eq]
    simp only [Sem.run_bind, hm, Result.andThen_ok, Sem.run_pure]
  · match rs, h2, h3 with
    | [r], h2, h3 =>
      have hs : vs.toArray.size = 1 := by simpa using h2
      simp only [hs, dif_pos, resultAV]
      have := h3 0 (by simp)
      have h0 : 0 < vs.length := by simp at h2; omega
      simpa [List.getD_eq_getElem?_getD, h0] using this
    | [], h2, h3 =>
      have hs : ¬ vs.toArray.size = 1 := by simp at h2 ⊢; simp [h2]
      simp only [dif_neg hs, resultAV]
      exact .tup _ _ (by simpa using h2) fun j hj => by simp at hj
    | r :: r' :: rs, h2, h3 =>
      have hs : ¬ vs.toArray.size = 1 := by simp at h2 ⊢; omega
      simp only [dif_neg hs, resultAV]
      refine .tup _ _ (by simpa using h2) fun j hj => ?_
      have := h3 j hj
      simpa [List.getD_eq_getElem?_getD, Array.getD_eq_getD_getElem?] using this

theorem getD_append_rel {x : Ctx} {as bs : List AV} {vs us : Array Value} (h : Args x as vs) (k : Args x bs us) : Args x (as ++ bs) (vs ++ us) := by
  refine ⟨by simp [h.1, k.1], fun j hj => ?_⟩
  by_cases hlt : j < as.length
  · have hv : j < vs.size := by rw [h.1]; exact hlt
    have := h.2 j hlt
    simpa [List.getD_eq_getElem?_getD, Array.getD_eq_getD_getElem?, List.getElem?_append_left hlt, Array.getElem?_append_left hv] using this
  · have hv : vs.size ≤ j := by rw [h.1]; omega
    have hj' : j - as.length < bs.length := by simp at hj; omega
    have := k.2 _ hj'
    rw [List.getD_eq_getElem?_getD, List.getElem?_append_right (by omega), Array.getD_eq_getD_getElem?, Array.getElem?_append_right hv, h.1]
    simpa [List.getD_eq_getElem?_getD, Array.getD_eq_getD_getElem?] using this

/-! ### The marks are taken at a function's end -/
def takeOne (r : Nat) (w : World) : World := { w with heap := w.heap.setIfInBounds r (.deferred none) }
def takeAll : List Nat → World → World
  | [], w => w
  | r :: bl, w => takeAll bl (takeOne r w)

theorem takeOne_only {w : World} {r : Nat} (h : w.heap[r]? = some (.deferred (some []))) : OnlyBlk w (takeOne r w) r := onlyBlk_setObj w r (.deferred none) h (by simp) (by simp)

theorem run_take {P : Program} {w : World} {r : Nat} (h : w.heap[r]? = some (.deferred (some []))) : (Instr.takeDeferred r).run P w = .ok [] (takeOne r w) := by
  simp [Instr.takeDeferred, run_getObj h (by simp), run_setObj h (by simp), takeOne]

theorem takeAll_keep : ∀ {bl : List Nat} {w : World}, bl.Nodup → (∀ r ∈ bl, w.heap[r]? = some (.deferred (some []))) →
    WKeep w (takeAll bl w) ∧ (takeAll bl w).heap.size = w.heap.size ∧ ∀ i, i ∉ bl → (takeAll bl w).heap[i]? = w.heap[i]?
  | [], w, _, _ => ⟨WKeep.refl w, rfl, fun _ _ => rfl⟩
  | r :: bl, w, hn, hb => by
    have ho := takeOne_only (hb r (by simp))
    have hn' := List.nodup_cons.1 hn
    obtain ⟨k1, k2, k3⟩ := takeAll_keep (bl := bl) (w := takeOne r w) hn'.2 fun r' hr' => by
      rw [ho.other r' (fun e => hn'.1 (e ▸ hr'))]; exact hb r' (by simp [hr'])
    exact ⟨ho.world.trans k1, k2.trans ho.size, fun i hi => by
      simp only [List.mem_cons, not_or] at hi
      exact (k3 i hi.2).trans (ho.other i hi.1)⟩

theorem leavesM_marks {P : Program} {fn : Func} {tmps : Array Value} {R : Ending → World → Prop} : ∀ {bl : List Nat} {w : World}, bl.Nodup → (∀ r ∈ bl, w.heap[r]? = some (.deferred (some []))) →
    (∃ v, (results fn tmps).run P (takeAll bl w) = .ok v (takeAll bl w) ∧ R (.returned v) (takeAll bl w)) →
    LeavesInM Fence.wide 0 P fn tmps R (bl.map fun r => { target := .collected r, args := #[] }) .returning w
  | [], w, _, _, h => h
  | r :: bl, w, hn, hb, h => by
    have ho := takeOne_only (hb r (by simp))
    have hn' := List.nodup_cons.1 hn
    refine ⟨by simp, .inl ⟨r, takeOne r w, rfl, run_take (hb r (by simp)), leavesM_marks hn'.2 (fun r' hr' => ?_) h⟩⟩
    rw [ho.other r' (fun e => hn'.1 (e ▸ hr'))]; exact hb r' (by simp [hr'])

theorem Marks.take {m : Nat} {x' : Ctx} {ds : List Deferred} (h : Marks m x' ds) (hW : RelW x') : ∃ bl : List Nat, ∃ x2 : Ctx, ds = bl.map (fun r => { target := .collected r, args := #[] }) ∧ bl.Nodup ∧ (∀ r ∈ bl, x'.w.heap[r]? = some (.deferred (some []))) ∧
    x2.w = takeAll bl x'.w ∧ x2.H = x'.H ∧ x2.used = x'.used ∧ RelW x2 ∧ Near x' x2 ∧ ∀ x, RelW x → Ext x x' → x.w.heap.size ≤ m → Ext x x2 := by
  obtain ⟨-, bl, h1, h2, h3⟩ := h
  obtain ⟨t1, t2, t3⟩ := takeAll_keep h2 fun r hr => (h3 r hr).2.2.2
  let x2 : Ctx := { x' with Z := fun i => x'.Z i ∧ i ∉ bl, w := takeAll bl x'.w }
  have hn : Near x' x2 := ⟨fun _ h => h, fun i hi => ⟨⟨hi.1, fun hm => (h3 i hm).2.2.1 hi.2⟩, hi.2⟩, fun i hi => t3 i fun hm => (h3 i hm).2.2.1 hi.2, fun b o _ ho => ⟨o, ho, o.like_refl, rfl⟩⟩
  refine ⟨bl, x2, h1, h2, fun r hr => (h3 r hr).2.2.2, rfl, rfl, rfl, ⟨fun b o ho => ⟨(hW.live b o ho).1, (hW.live b o ho).2.near hn rfl fun p hp hz _ => ⟨t3 _ fun hm => hz (h3 _ hm).2.1, fun hh => hz hh.1⟩⟩, hW.inj, fun i hi => ?_, hW.bound, fun i hi => ?_⟩, hn, fun x hx e hm => ?_⟩
  · have := hW.zlt i hi.1; simp only [x2]; omega
  · have := hW.vlt i hi; simp only [x2]; omega
  · have hlow : ∀ i, x.Z i → i ∉ bl := fun i hi hmem => by
      have := hx.zlt i hi; have := (h3 i hmem).1; omega
    exact ⟨e.used, fun i hi => ⟨e.Z i hi, hlow i hi⟩, fun i hi => (t3 i (hlow i hi)).trans (e.keep i hi), e.objs, e.world.trans t1, e.V⟩

/-- A FUNCTION's CALL, out of its body's walk. -/
theorem CallOk.func {E : Env} {f : FuncId} {fn : Func} {c : Code} {first cap as : List AV} {H H' : Heap} {n n' N : Nat} {T T' : Nat → AV} {out : Exit} {rs : List AV}
    (hf : E.P.funcs[f]? = some fn) (hb : fn.body = some c) (hname : (fn.name == "runtime.NumGoroutine") = false) (hN : N = max fn.ntmps (first ++ as ++ cap).length) (hT : ∀ t, T t = (first ++ as ++ cap).getD t .any)
    (hfr : Fresh H n) (hs : ∀ m, Big { E with base := m } none N c ⟨T, H, n⟩ out ⟨T', H', n'⟩) (hout : out = .normal ∨ out = .ret) (hl : fn.results.size = rs.length) (hres : ∀ j (hj : j < fn.results.size), ResOk E.P T' H' fn.results[j] (rs.getD j .any)) :
    CallOk E (.fn (.func f) first cap) as H n (resultAV rs) H' n' := by
  have g := (hs 0).g hfr
  refine ⟨g.le, g.fresh, g.new, fun x hW hG hA hu fv vs hrf hra => ?_⟩
  generalize hfv : (AV.fn (.func f) first cap) = q at hrf
  cases hrf with
  | fn f' first' cap' fvs cvs hs1 hs2 hr1 hr2 =>
    cases hfv
    have hargs : Args x (first ++ as ++ cap) (fvs ++ vs ++ cvs) := getD_append_rel (getD_append_rel ⟨hs1, hr1⟩ hra) ⟨hs2, hr2⟩
    unfold InvIn
    have hrun : ((do let d ← Deferred.ofValue (.func (.func f) fvs cvs) vs; invoke d.target d.args) : Sem Next).run E.P x.w = .ok (.enter f (fvs ++ vs ++ cvs)) x.w := by
      simp only [Deferred.ofValue, Sem.run_bind, Sem.run_pure, Result.andThen_ok, invoke]
      exact run_callFunc_body hf hb hname _ _
    rw [hrun]
    refine callsIn_of_wp_marks hf hb trivial ?_
    have hT0 : RelF x N T { tmps := (fvs ++ vs ++ cvs) ++ Array.replicate (fn.ntmps - (fvs ++ vs ++ cvs).size) undef, defers := [] } := by
      refine ⟨by rw [hN, ← hargs.1]; simp; omega, fun t => ?_⟩
      rw [hT]
      by_cases ht : t < (first ++ as ++ cap).length
      · have htv : t < (fvs ++ vs ++ cvs).size := by rw [hargs.1]; exact ht
        have := hargs.2 t ht
        generalize fvs ++ vs ++ cvs = V at htv this ⊢
        rw [Array.getD_eq_getD_getElem?, Array.getElem?_append_left htv]
        rw [Array.getD_eq_getD_getElem?] at this
        simpa [htv] using this
      · rw [List.getD_eq_getElem?_getD, List.getElem?_eq_none (by omega)]; exact .any _
    refine (hs x.w.heap.size).run hfr x _ ⟨hW, hG, hT0, hA, .nil (Nat.le_refl _)⟩ hu _ fun x' a' ho' hm' => ?_
    obtain ⟨bl, x2, q1, q2, q3, q4, q5, q6, q7, q8, q9⟩ := ho'.D.take ho'.W
    have hT2 : RelF x2 N T' a' := ⟨ho'.T.1, fun t => (ho'.T.2 t).near q8⟩
    have hA2 : AgS Full Full x2 H' := ⟨fun b hb hu hne => by rw [q5]; rw [q6] at hu; exact ho'.A.cont b hb hu hne, fun b o hb hu ho => by rw [q5]; rw [q6] at hu; exact ho'.A.like b o hb hu ho⟩
    obtain ⟨v, hv, hrv⟩ := results_sound q7 hT2 hA2 hl hres
    have hfin : LeavesInM Fence.wide 0 E.P fn a'.tmps (fun e w' => ∃ v', e = .returned v' ∧ ∃ x'', x''.w = w' ∧ RelW x'' ∧ Ext x x'' ∧ x''.H = patch x.H H H' ∧ Rel x'' (resultAV rs) v' ∧ ∀ b, x''.used b → x.used b ∨ (n ≤ b ∧ b < n')) a'.defers .returning x'.w := by
      rw [q1]
      refine leavesM_marks q2 q3 ⟨v, by rw [← q4]; exact hv, v, rfl, x2, q4, q7, q9 x hW hm'.E (Nat.le_refl _), by rw [q5]; exact hm'.H, hrv, fun b hb => by rw [q6] at hb; exact hm'.U b hb⟩
    rcases hout with rfl | rfl <;> exact hfin
  | _ => cases hfv

end Go.Abs

namespace Go.Abs
open Go

/-! ### Range over a function -/

/-- A function of the program that has a body. -/
def HasBody (E : Env) (f : FuncId) : Prop := ∃ fn c, E.P.funcs[f]? = some fn ∧ fn.body = some c ∧ (fn.name == "runtime.NumGoroutine") = false

/-- One more kept block, which nobody sees. -/
def Ctx.hide (x : Ctx) (O : Obj) : Ctx := { x with Z := fun i => x.Z i ∨ i = x.w.heap.size, w := x.w.alloc O }

theorem Ctx.hide_ext {x : Ctx} (h : RelW x) {O : Obj} (hO : loose O) : Ext x (x.hide O) ∧ RelW (x.hide O) := by
  have e : Ext x (x.hide O) := ⟨fun _ h => h, fun _ h => .inl h, fun i hi => heap_alloc_lt _ _ (h.zlt i hi), fun b o _ ho => ⟨o, ho, o.like_refl, rfl⟩, ⟨rfl, rfl, rfl, by simp [Ctx.hide], frozen_alloc x.w O hO⟩, fun _ h => h, fun _ _ h => h⟩
  refine ⟨e, ⟨fun b o ho => ⟨(h.live b o ho).1, (h.live b o ho).2.ext e rfl fun p _ hz hl => ⟨heap_alloc_lt _ _ hl, fun hh => ?_⟩⟩, h.inj, fun i hi => ?_, h.bound, fun i hi => ?_⟩⟩
  · rcases hh with hh | hh
    · exact hz hh
    · omega
  · rcases hi with hi | hi
    · have := h.zlt i hi; simp [Ctx.hide]; omega
    · subst hi; simp [Ctx.hide]
  · have := h.vlt i hi; simp [Ctx.hide]; omega

/-- An object is put away for good. -/
theorem RelW.gone {x : Ctx} (h : RelW x) {b : Nat} {o : AObj} {p : Place} {w' : World} (hb : x.H b = some o) (hp : x.ι b = some p) (hw : OnlyBlk x.w w' p.blk) :
    Ext x { x with H := x.H.del b, w := w' } ∧ RelW { x with H := x.H.del b, w := w' } := by
  have hz := ((h.live b o hb).2.blk_lt hp).2
  have get : ∀ i o1, (x.H.del b) i = some o1 → i ≠ b ∧ x.H i = some o1 := fun i o1 hi => by
    by_cases hib : i = b
    · subst hib; simp [Heap.del] at hi
    · exact ⟨hib, by simpa only [Heap.del, if_neg hib] using hi⟩
  have e : Ext x { x with H := x.H.del b, w := w' } := ⟨fun _ h => h, fun _ h => h, fun i hi => hw.other i (fun e => hz (e ▸ hi)), fun i o1 hu ho => ⟨o1, (get i o1 ho).2, o1.like_refl, rfl⟩, hw.world, fun _ h => h, fun _ _ h => h⟩
  refine ⟨e, ⟨fun i o1 hi => ?_, fun i i' q q' o1 o2 h1 h2 h3 h4 h5 => h.inj i i' q q' o1 o2 (get i o1 h1).2 (get i' o2 h2).2 h3 h4 h5, fun i hi => ?_, h.bound, fun i hi => ?_⟩⟩
  · obtain ⟨hne, hi'⟩ := get i o1 hi
    exact ⟨(h.live i o1 hi').1, (h.live i o1 hi').2.ext e rfl fun q hq hz _ => ⟨hw.other q.blk fun he => hne (h.inj i b q p o1 o hi' hb hq hp he), hz⟩⟩
  · have := h.zlt i hi; have := hw.size; show i < w'.heap.size; omega
  · have := h.vlt i hi; have := hw.size; show i < w'.heap.size; omega

/-- Where a pending jump leads. -/
def jumpOut : Option Code → Option Exit
  | none => some .normal
  | some .ret => some .ret
  | some (.exit id) => some (.exit id)
  | _ => none

theorem run_endLoop {P : Program} {w : World} {l : Nat} {r : Loop} (h : w.heap[l]? = some (.loop r)) (hb : r.state ≠ .busy) :
    (Instr.endLoop l).run P w = .ok r.pending { w with heap := w.heap.setIfInBounds l (.loop { r with state := .exhausted }) } := by
  have hb' : (r.state == LoopState.busy) = false := by cases hs : r.state <;> first | rfl | exact absurd hs hb
  simp [Instr.endLoop, Instr.getLoop, run_getObj h (by simp), run_setObj h (by simp), hb']
  exact fun h => absurd h hb

theorem run_newObj {P : Program} (o : Obj) (w : World) : (newObj o).run P w = .ok w.heap.size (w.alloc o) := by
  rfl

theorem run_enterLoop {P : Program} (fn : FuncId) (tmps : Array Value) (ps : Array Tmp) (as bd : Code) (w : World) :
    (Instr.enterLoop fn tmps ps as bd none).run P w = .ok (w.heap.size + 1, [{ target := .collected w.heap.size, args := #[] }])
      ((w.alloc (.deferred (some []))).alloc (.loop { state := .ready, pending := none, fn, tmps, params := ps, assign := as, body := bd, defers := w.heap.size })) := by
  simp only [Instr.enterLoop, Sem.run_bind, Sem.run_pure, Result.andThen_ok, run_newObj, World.size_alloc]

section
variable {E : Env} {N : Nat} {s s' : St} {out : Exit}

/-- THE STATEMENT. -/
theorem Big.rfun {g : Operand} {ps : Array Tmp} {as bd : Code} {f : FuncId} {first cap : List AV} {ts ts' : List AV} {ps' : Array Tmp} {as' bd' : Code} {st : LoopState} {pend : Option Code} {r : AV} {H2 : Heap} {n2 : Nat}
    (hg : aevalF E.G s.T g = .fn (.func f) first cap) (hb : HasBody E f) (hN : ts.length ≤ N) (ht : ∀ j, j < ts.length → ts.getD j .any = s.T j)
    (hc : CallOk E (.fn (.func f) first cap) [.yld s.n] (s.H.upd s.n (.loop ts ps as bd .ready none)) (s.n + 1) r H2 n2)
    (hl : H2 s.n = some (.loop ts' ps' as' bd' st pend)) (hst : st ≠ .busy) (hj : jumpOut pend = some out) :
    Big E none N (.rangeFunc g ps as bd) s out ⟨s.T, H2.del s.n, n2⟩ := by
  obtain ⟨c1, c2, c3, c4⟩ := hc
  have hgrow : Fresh s.H s.n → Grow s.H s.n (H2.del s.n) n2 := fun hf => ⟨by omega, fun b hb' => by simp only [Heap.del]; split <;> simp [c2 b hb'], fun b h0 h1 => by
    by_cases hbn : b = s.n
    · omega
    · simp only [Heap.del, if_neg hbn] at h1
      have := c3 b (by simp only [Heap.upd, if_neg hbn]; exact h0) h1
      omega⟩
  refine ⟨hgrow, fun hf x a ho hu Q hQ => wpIn_rangeFunc fun fn _ => ?_⟩
  have hnu : ¬ x.used s.n := hu _ (Nat.le_refl _) (show s.n < n2 by omega)
  -- the context of the call
  let O1 : Obj := .deferred (some [])
  let R0 : Loop := { state := .ready, pending := none, fn, tmps := a.tmps, params := ps, assign := as, body := bd, defers := x.w.heap.size }
  obtain ⟨e1, W1⟩ := Ctx.hide_ext ho.W (O := O1) trivial
  let y : Ctx := (x.hide O1).new s.n (.loop ts ps as bd .ready none) (.loop R0) 0 0
  have e2 : Ext (x.hide O1) y := Ctx.new_ext W1 hnu _ _ _ _ trivial
  have exy := e1.trans e2
  have hps : y.ι s.n = some ⟨x.w.heap.size + 1, 0, 0⟩ := by simp [y, Ctx.new, Ctx.hide]
  have hTT : ∀ j, Rel y (ts.getD j .any) (a.tmps.getD j undef) := fun j => by
    by_cases hj' : j < ts.length
    · rw [ht j hj']; exact (ho.T.2 j).ext exy
    · rw [List.getD_eq_getElem?_getD, List.getElem?_eq_none (by omega)]; exact .any _
  have Wy : RelW y := by
    refine RelW.new W1 hnu trivial ⟨_, R0, hps, ?_, fun hz => ?_, rfl, rfl, rfl, rfl, rfl, ?_, hTT⟩
    · have := heap_alloc_eq (x.hide O1).w (.loop R0)
      rw [show (x.hide O1).w.heap.size = x.w.heap.size + 1 by simp [Ctx.hide]] at this
      exact this
    · have := W1.zlt _ hz; simp [Ctx.hide] at this
    · rw [show R0.tmps.size = N from ho.T.1]; exact hN
  have hAy : AgS (fun _ => True) (fun _ => True) y (s.H.upd s.n (.loop ts ps as bd .ready none)) := by
    have h1 : ∀ b, True → y.used b → (s.H.upd s.n (.loop ts ps as bd .ready none)) b ≠ none → y.H b = (s.H.upd s.n (.loop ts ps as bd .ready none)) b := fun b _ hub hne => by
      by_cases hbn : b = s.n
      · simp [y, Ctx.new, Ctx.hide, Heap.upd, hbn]
      · simp only [y, Ctx.new, Ctx.hide, Heap.upd, if_neg hbn] at hub hne ⊢
        exact ho.A.cont b trivial (hub.resolve_right hbn) hne
    exact ⟨h1, fun b o _ hub hob => ⟨o, by rw [h1 b trivial hub (by simp [hob]), hob], o.like_refl⟩⟩
  have huy : ∀ b, s.n + 1 ≤ b → b < n2 → ¬ y.used b := fun b h1 h2 hub => by
    rcases hub with hub | hub
    · exact hu b (by omega) h2 hub
    · omega
  -- the value that is called
  have hrel := RelF.evalT (o := g) (T := s.T) (a := a) ho.G fun t _ => ho.T.2 t
  rw [hg] at hrel
  generalize hgv : a.eval g = gv at hrel
  generalize hfv : (AV.fn (.func f) first cap) = q at hrel
  cases hrel with
  | fn f' first' cap' fvs cvs hs1 hs2 hr1 hr2 =>
    cases hfv
    have hrelf : Rel y (.fn (.func f) first cap) (.func (.func f) fvs cvs) := .fn _ _ _ fvs cvs hs1 hs2 (fun j hj => (hr1 j hj).ext exy) fun j hj => (hr2 j hj).ext exy
    have hrely : Rel y (.yld s.n) (.func (.yield (x.w.heap.size + 1)) #[] #[]) := .yld _ _ (.inr rfl) ⟨_, rfl⟩ fun ts ps as bd st pend _ => ⟨_, hps, rfl⟩
    have hinv := c4 y Wy (ho.G.ext exy) hAy huy _ #[.func (.yield (x.w.heap.size + 1)) #[] #[]] hrelf ⟨rfl, fun j hj => by
      obtain rfl : j = 0 := by simpa using hj
      simpa using hrely⟩
    obtain ⟨fn', c', hf1, hf2, hf3⟩ := hb
    have hyw : y.w = (x.w.alloc (.deferred (some []))).alloc (.loop R0) := rfl
    have hrun : ((do let d ← Deferred.ofValue (.func (.func f) fvs cvs) #[.func (.yield (x.w.heap.size + 1)) #[] #[]]; invoke d.target d.args) : Sem Next).run E.P y.w = .ok (.enter f (fvs ++ #[.func (.yield (x.w.heap.size + 1)) #[] #[]] ++ cvs)) y.w := by
      simp only [Deferred.ofValue, Sem.run_bind, Sem.run_pure, Result.andThen_ok, invoke]
      exact run_callFunc_body hf1 hf2 hf3 _ _
    unfold InvIn at hinv
    rw [hrun] at hinv
    refine ⟨x.w.heap.size + 1, [{ target := .collected x.w.heap.size, args := #[] }], y.w, { target := .fn (.func f) cvs, args := fvs ++ #[.func (.yield (x.w.heap.size + 1)) #[] #[]] }, y.w, f, fvs ++ #[.func (.yield (x.w.heap.size + 1)) #[] #[]] ++ cvs, y.w, ?_, ?_, fun _ _ => trivial, ?_, fun hd => by simp [fence, Fence.wide] at hd, ?_⟩
    · rw [hyw]; exact run_enterLoop ..
    · simp only [resolve, rangeCall, hgv, Deferred.ofValue, Sem.run_pure]
      simp [Act.eval]
    · simp only [invoke]
      exact run_callFunc_body hf1 hf2 hf3 _ _
    · refine CallsIn.mono hinv fun e w3 ⟨v, he, x', hw3, k1, k2, k3, k4, k5⟩ => ?_
      subst he
      subst hw3
      have hHn : x'.H s.n = some (.loop ts' ps' as' bd' st pend) := by
        rw [k3]
        by_cases he : H2 s.n = (s.H.upd s.n (.loop ts ps as bd .ready none)) s.n
        · rw [patch_keep he, ← hl, he]; simp [y, Ctx.new, Heap.upd]
        · rw [patch_chg he, hl]
      have hun : y.used s.n := .inr rfl
      obtain ⟨o0, _, _, hι⟩ := k2.objs s.n _ hun hHn
      obtain ⟨_, p, R, hp, hR1, hR2, hR3, hR4, hR5, hR6, hR7, hR8, hR9⟩ := k1.live s.n _ hHn
      rw [hι, hps] at hp
      cases hp
      simp only at hR1 hR2
      have hRb : R.state ≠ .busy := by rw [hR3]; exact hst
      have hob : OnlyBlk x'.w { x'.w with heap := x'.w.heap.setIfInBounds (x.w.heap.size + 1) (.loop { R with state := .exhausted }) } (x.w.heap.size + 1) := onlyBlk_setObj _ _ _ hR1 (by simp) (by simp)
      obtain ⟨e4, W4⟩ := RelW.gone (p := ⟨x.w.heap.size + 1, 0, 0⟩) k1 hHn (hι.trans hps) hob
      have exx := (exy.trans k2).trans e4
      have hm4 : Moved x _ s.H s.n (H2.del s.n) n2 := ⟨exx, by
        funext b
        by_cases hbn : b = s.n
        · subst hbn
          have h0 : s.H s.n = none := hf _ (Nat.le_refl _)
          simp [Heap.del, patch, h0, unused_none ho.W hnu]
        · have e5 : (s.H.upd s.n (.loop ts ps as bd .ready none)) b = s.H b := by simp only [Heap.upd, if_neg hbn]
          have e6 : y.H b = x.H b := by simp [y, Ctx.new, Ctx.hide, Heap.upd, hbn]
          have e7 : x'.H b = patch x.H s.H H2 b := by
            rw [k3]
            by_cases he : H2 b = s.H b
            · rw [patch_keep (he.trans e5.symm), patch_keep he, e6]
            · rw [patch_chg (by rw [e5]; exact he), patch_chg he]
          have e8 : (H2.del s.n) b = H2 b := by simp only [Heap.del, if_neg hbn]
          show (if b = s.n then none else x'.H b) = patch x.H s.H (H2.del s.n) b
          rw [if_neg hbn, e7]
          by_cases he : H2 b = s.H b
          · rw [patch_keep he, patch_keep (e8.trans he)]
          · rw [patch_chg he, patch_chg (by rw [e8]; exact he), e8], fun b hub => by
        rcases k5 b hub with q | q
        · rcases q with q | q
          · exact .inl q
          · subst q; exact .inr ⟨Nat.le_refl _, by omega⟩
        · exact .inr ⟨by omega, q.2⟩⟩
      have hso : SOk E N { x' with H := x'.H.del s.n, w := { x'.w with heap := x'.w.heap.setIfInBounds (x.w.heap.size + 1) (.loop { R with state := .exhausted }) } } { a with defers := [{ target := .collected x.w.heap.size, args := #[] }] ++ a.defers } s.T (H2.del s.n) := by
        refine ⟨W4, ho.G.ext exx, ⟨ho.T.1, fun t => (ho.T.2 t).ext exx⟩, agree_patch ho.A hf hm4, ?_⟩
        obtain ⟨m0, bl, h1, h2, h3⟩ := ho.D.ext ho.W exx
        obtain ⟨m0', bl', h1', h2', h3'⟩ := ho.D
        have ebl : bl' = bl := by
          have := h1.symm.trans h1'
          have inj : Function.Injective (fun r : Nat => ({ target := .collected r, args := #[] } : Deferred)) := fun r r' h => by simpa using h
          exact ((List.map_inj_right (fun a b h => inj h)).1 this).symm
        subst ebl
        have hZ0 : y.Z x.w.heap.size := .inr rfl
        have hV0 : ¬ y.V x.w.heap.size := fun hv => by have := ho.W.vlt _ hv; omega
        have hs0 : x.w.heap.size < y.w.heap.size := by simp [y, Ctx.new, Ctx.hide]; omega
        have hh0 : y.w.heap[x.w.heap.size]? = some (.deferred (some [])) := by
          show ((x.w.alloc (.deferred (some []))).alloc (.loop R0)).heap[x.w.heap.size]? = _
          rw [heap_alloc_lt _ _ (by simp), heap_alloc_eq]
        have eyx := k2.trans e4
        refine ⟨m0, x.w.heap.size :: bl', by rw [h1']; rfl, List.nodup_cons.2 ⟨fun hm => ?_, h2'⟩, fun r hr => ?_⟩
        · have := ho.W.zlt _ (h3' _ hm).2.1; omega
        · rcases List.mem_cons.1 hr with rfl | hr
          · exact ⟨m0', eyx.Z _ hZ0, fun hv => hV0 (eyx.V.2 _ hZ0 hv), (eyx.keep _ hZ0).trans hh0⟩
          · exact h3 r hr
      refine ⟨R.pending, _, run_endLoop hR1 hRb, ?_⟩
      have hfin := hQ _ _ hso hm4
      revert hfin
      generalize ({ x'.w with heap := x'.w.heap.setIfInBounds (x.w.heap.size + 1) (.loop { R with state := .exhausted }) } : World) = w5
      intro hfin
      rw [hR4]
      cases pend with
      | none => simp only [jumpOut, Option.some.injEq] at hj; subst hj; exact hfin
      | some c =>
        cases c <;> simp only [jumpOut, Option.some.injEq, reduceCtorEq] at hj
        · subst hj; exact wpIn_exit hfin
        · subst hj; exact wpIn_ret hfin
  | _ => cases hfv

end
end Go.Abs

namespace Go.Abs
open Go

/-- The loop's record gets another state. -/
theorem put_loop {x : Ctx} {H : Heap} {n b : Nat} {ts : List AV} {ps : Array Tmp} {as bd : Code} {st : LoopState} {pend : Option Code} (hW : RelW x) (hA : AgS Full Full x H) (hu : x.used b) (hH : H b = some (.loop ts ps as bd st pend)) (hf : Fresh H n) :
    ∃ (p : Place) (r : Loop), x.ι b = some p ∧ x.w.heap[p.blk]? = some (.loop r) ∧ r.state = st ∧ r.pending = pend ∧ r.params = ps ∧ r.assign = as ∧ r.body = bd ∧ ts.length ≤ r.tmps.size ∧ (∀ j, Rel x (ts.getD j .any) (r.tmps.getD j undef)) ∧
      ∀ st' pend', ∃ x' : Ctx, x'.w = { x.w with heap := x.w.heap.setIfInBounds p.blk (.loop { r with state := st', pending := pend' }) } ∧ x'.used = x.used ∧ RelW x' ∧ Ext x x' ∧
        Moved x x' H n (H.upd b (.loop ts ps as bd st' pend')) n ∧ Grow H n (H.upd b (.loop ts ps as bd st' pend')) n := by
  have hx : x.H b = some (.loop ts ps as bd st pend) := hA.at trivial hu hH
  obtain ⟨_, p, r, h1, h2, h3, h4, h5, h6, h7, h8, h9, h10⟩ := hW.live b _ hx
  refine ⟨p, r, h1, h2, h4, h5, h6, h7, h8, h9, h10, fun st' pend' => ?_⟩
  let r' : Loop := { r with state := st', pending := pend' }
  have hob : OnlyBlk x.w { x.w with heap := x.w.heap.setIfInBounds p.blk (.loop r') } p.blk := onlyBlk_setObj _ _ _ h2 (by simp) (by simp)
  have hl : (AObj.loop ts ps as bd st pend).like (.loop ts ps as bd st' pend') := trivial
  have hE := Ctx.put_ext hW hx h1 hl hob
  have hR : RelW (x.put b (.loop ts ps as bd st' pend') { x.w with heap := x.w.heap.setIfInBounds p.blk (.loop r') }) :=
    RelW.put hW hx h1 hl hob ⟨p, r', h1, setObj_get _ _ _ _ h2, h3, rfl, rfl, h6, h7, h8, h9, fun j => (h10 j).ext hE⟩
  refine ⟨x.put b (.loop ts ps as bd st' pend') { x.w with heap := x.w.heap.setIfInBounds p.blk (.loop r') }, rfl, rfl, hR, hE, ⟨hE, ?_, fun b hb => .inl hb⟩, ⟨Nat.le_refl _, fun i hi => ?_, fun i h0 h1' => ?_⟩⟩
  · rw [patch_upd (by rw [hx, hH])]; rfl
  · have : i ≠ b := fun e => by rw [e] at hi; rw [hf b hi] at hH; cases hH
    simp only [Heap.upd, if_neg this]; exact hf i hi
  · by_cases e : i = b
    · subst e; rw [h0] at hH; cases hH
    · simp only [Heap.upd, if_neg e] at h1'; exact absurd h0 h1'

/-- The jump that a round's end leaves. -/
def jumpOf : Exit → Option (Option Code)
  | .normal => some none
  | .ret => some (some .ret)
  | .exit id => some (some (.exit id))
  | _ => none

def setTs (T : Nat → AV) : List (Nat × AV) → Nat → AV
  | [] => T
  | q :: l => setTs (fun t => if t = q.1 then q.2 else T t) l

theorem run_endRound {P : Program} {w : World} {l : Nat} {r : Loop} {jump : Option Code} (h : w.heap[l]? = some (.loop r)) :
    (Instr.endRound l jump).run P w = .ok (.bool jump.isNone) { w with heap := w.heap.setIfInBounds l (.loop { r with state := if jump.isNone then .ready else .done, pending := jump }) } := by
  simp [Instr.endRound, Instr.getLoop, run_getObj h (by simp), run_setObj h (by simp)]

theorem run_beginRound {P : Program} {w : World} {l : Nat} {r : Loop} (h : w.heap[l]? = some (.loop r)) (hr : r.state = .ready) :
    (Instr.beginRound l).run P w = .ok () { w with heap := w.heap.setIfInBounds l (.loop { r with state := .busy }) } := by
  simp [Instr.beginRound, Instr.getLoop, run_getObj h (by simp), run_setObj h (by simp), hr]

theorem setTs_rel {x : Ctx} : ∀ {ps : List Nat} {args : List AV} {T : Nat → AV} {vs : List Value} {tm : Array Value}, ps.length = args.length → vs.length = args.length → (∀ t ∈ ps, t < tm.size) → (∀ t, Rel x (T t) (tm.getD t undef)) → (∀ j, j < args.length → Rel x (args.getD j .any) (vs.getD j default)) →
    ((ps.zip vs).foldl (fun tmps q => tmps.setIfInBounds q.1 q.2) tm).size = tm.size ∧ ∀ t, Rel x (setTs T (ps.zip args) t) (((ps.zip vs).foldl (fun tmps q => tmps.setIfInBounds q.1 q.2) tm).getD t undef)
  | [], args, T, vs, tm, h1, h2, h3, h4, h5 => ⟨rfl, h4⟩
  | p :: ps, [], T, vs, tm, h1, h2, h3, h4, h5 => by simp at h1
  | p :: ps, a :: args, T, [], tm, h1, h2, h3, h4, h5 => by simp at h2
  | p :: ps, a :: args, T, v :: vs, tm, h1, h2, h3, h4, h5 => by
    have hp : p < tm.size := h3 p (by simp)
    obtain ⟨k1, k2⟩ := setTs_rel (x := x) (ps := ps) (args := args) (T := fun t => if t = p then a else T t) (vs := vs) (tm := tm.setIfInBounds p v) (by simpa using h1) (by simpa using h2) (fun t ht => by simpa using h3 t (by simp [ht]))
      (fun t => by
        by_cases e : t = p
        · subst e
          have := h5 0 (by simp)
          simpa [Array.getD_eq_getD_getElem?, hp] using this
        · rw [if_neg e]
          have := h4 t
          simpa [Array.getD_eq_getD_getElem?, Array.getElem?_setIfInBounds, Ne.symm e] using this)
      (fun j hj => by have := h5 (j + 1) (by simpa using hj); simpa using this)
    exact ⟨by simpa using k1, k2⟩

/-- A ROUND. -/
theorem CallOk.yld {E : Env} {b n n1 n2 : Nat} {H H1 H2 : Heap} {ts ts1 ts2 : List AV} {ps ps1 ps2 : Array Tmp} {as bd as1 bd1 as2 bd2 : Code} {pend pend1 pend2 : Option Code} {st2 : LoopState} {args : List AV} {T1 T2 : Nat → AV} {out : Exit} {jump : Option Code}
    (hH : H b = some (.loop ts ps as bd .ready pend)) (hsz : ps.size = args.length) (hps : ∀ t ∈ ps.toList, t < ts.length) (hfr : Fresh H n)
    (h1 : ∀ m l N, ts.length ≤ N → Big { E with base := m } (some l) N as ⟨setTs (fun t => ts.getD t .any) (ps.toList.zip args), H, n⟩ .normal ⟨T1, H1, n1⟩)
    (hb1 : H1 b = some (.loop ts1 ps1 as1 bd1 .ready pend1))
    (h2 : ∀ m l N, ts.length ≤ N → Big { E with base := m } (some l) N bd ⟨T1, H1.upd b (.loop ts1 ps1 as1 bd1 .busy pend1), n1⟩ out ⟨T2, H2, n2⟩)
    (hb2 : H2 b = some (.loop ts2 ps2 as2 bd2 st2 pend2)) (hj : jumpOf out = some jump) :
    CallOk E (.yld b) args H n (.bool jump.isNone) (H2.upd b (.loop ts2 ps2 as2 bd2 (if jump.isNone then .ready else .done) jump)) n2 := by
  have g1 := (h1 0 0 _ (Nat.le_refl _)).g hfr
  have hput : ∀ {H : Heap} {n b : Nat} {o o' : AObj}, Fresh H n → H b = some o → Grow H n (H.upd b o') n := fun {H n b o o'} hf hb => ⟨Nat.le_refl _, fun i hi => by
      have : i ≠ b := fun e => by rw [e] at hi; rw [hf b hi] at hb; cases hb
      simp only [Heap.upd, if_neg this]; exact hf i hi, fun i h0 h1' => by
      by_cases e : i = b
      · subst e; rw [h0] at hb; cases hb
      · simp only [Heap.upd, if_neg e] at h1'; exact absurd h0 h1'⟩
  have g1' : Grow H1 n1 (H1.upd b (.loop ts1 ps1 as1 bd1 .busy pend1)) n1 := hput g1.fresh hb1
  have g2 := (h2 0 0 _ (Nat.le_refl _)).g g1'.fresh
  have g3 : Grow H2 n2 (H2.upd b (.loop ts2 ps2 as2 bd2 (if jump.isNone then .ready else .done) jump)) n2 := hput g2.fresh hb2
  have gA := (g1.trans g1').trans g2
  have gAll := gA.trans g3
  refine ⟨gAll.le, gAll.fresh, gAll.new, fun x hW hG hA hu f vs hrf hra => ?_⟩
  have hub : x.used b := hrf.refs
  obtain ⟨p, r, q1, q2, q3, q4, q5, q6, q7, q8, q9, _⟩ := put_loop hW hA hub hH hfr
  have hfv : f = .func (.yield p.blk) #[] #[] := by
    cases hrf with
    | yld b v _ _ h =>
      obtain ⟨p', hp', e⟩ := h _ _ _ _ _ _ (hA.at trivial hub hH)
      rw [q1] at hp'; cases hp'; exact e
  subst hfv
  have hvs : vs.size = args.length := hra.1
  have hrun : ((do let d ← Deferred.ofValue (.func (.yield p.blk) #[] #[]) vs; invoke d.target d.args) : Sem Next).run E.P x.w = .ok (.round p.blk r.fn ((r.params.zip vs).foldl (fun tmps (t, a) => tmps.setIfInBounds t a) r.tmps) r.assign r.body) x.w := by
    have hne : ¬ vs.size ≠ r.params.size := by rw [q5]; omega
    simp [Deferred.ofValue, invoke, Instr.yield, Instr.getLoop, run_getObj q2 (by simp), hne]
  unfold InvIn
  rw [hrun]
  have htm := setTs_rel (x := x) (ps := ps.toList) (args := args) (T := fun t => ts.getD t .any) (vs := vs.toList) (tm := r.tmps) (by simpa using hsz) (by simpa using hvs) (fun t ht => Nat.lt_of_lt_of_le (hps t ht) q8) q9
    (fun j hj => by have := hra.2 j hj; simpa [List.getD_eq_getElem?_getD, Array.getD_eq_getD_getElem?] using this)
  have htmE : (r.params.zip vs).foldl (fun tmps (t, a) => tmps.setIfInBounds t a) r.tmps = (ps.toList.zip vs.toList).foldl (fun tmps q => tmps.setIfInBounds q.1 q.2) r.tmps := by
    rw [q5, ← Array.foldl_toList, Array.toList_zip]
  rw [htmE, q6, q7]
  generalize hTM : (ps.toList.zip vs.toList).foldl (fun tmps q => tmps.setIfInBounds q.1 q.2) r.tmps = tm at htm
  obtain ⟨t1, t2⟩ := htm
  refine roundIn_of_wpIn trivial ?_
  have hle : ts.length ≤ tm.size := by omega
  have hu1 : ∀ i, n ≤ i → i < n1 → ¬ x.used i := fun i a1 a2 => hu i a1 (by have h1 : n1 ≤ n2 := g2.le; omega)
  refine (h1 0 p.blk tm.size hle).run hfr x { tmps := tm, defers := [] } ⟨hW, hG, ⟨rfl, t2⟩, hA, .nil (Nat.zero_le _)⟩ hu1 _ fun x1 a1 ho1 hm1 => ?_
  have hub1 : x1.used b := hm1.E.used b hub
  obtain ⟨p1, r1, k1, k2, k3, k4, k5, k6, k7, k8, k9, k10⟩ := put_loop ho1.W ho1.A hub1 hb1 g1.fresh
  obtain ⟨_, _, _, hι1⟩ := hm1.E.objs b _ hub (ho1.A.at trivial hub1 hb1)
  rw [q1, k1] at hι1
  cases hι1
  obtain ⟨y1, e1, e2, e3, e4, e5, e6⟩ := k10 .busy pend1
  have ew : ({ x1.w with heap := x1.w.heap.setIfInBounds p.blk (.loop { r1 with state := .busy }) } : World) = y1.w := by rw [e1, ← k4]
  refine ⟨y1.w, by rw [← ew]; exact run_beginRound k2 k3, ?_⟩
  have hn12 : ∀ i, n1 ≤ i → i < n2 → ¬ y1.used i := fun i a1 a2 hh => by
    rw [e2] at hh
    exact hm1.unused (m := n2) (fun j b1 b2 => hu j b1 b2) g1.le i a1 a2 hh
  refine (h2 0 p.blk tm.size hle).run g1'.fresh y1 a1 ⟨e3, hG.ext (hm1.E.trans e4), ⟨ho1.T.1, fun t => (ho1.T.2 t).ext e4⟩, agree_patch ho1.A g1.fresh e5, ho1.D.ext ho1.W e4⟩ hn12 _ fun x2 a2 ho2 hm2 => ?_
  have hub2 : x2.used b := hm2.E.used b (by rw [e2]; exact hub1)
  obtain ⟨p2, r2, l1, l2, l3, l4, l5, l6, l7, l8, l9, l10⟩ := put_loop ho2.W ho2.A hub2 hb2 g2.fresh
  obtain ⟨_, _, _, hι2⟩ := (e4.trans hm2.E).objs b _ hub1 (ho2.A.at trivial hub2 hb2)
  rw [k1, l1] at hι2
  cases hι2
  obtain ⟨y2, f1, f2, f3, f4, f5, f6⟩ := l10 (if jump.isNone then .ready else .done) jump
  have hM1 : Moved x y1 H n (H1.upd b (.loop ts1 ps1 as1 bd1 .busy pend1)) n1 := Moved.trans hW e3 hA hfr hu1 g1 g1' hm1 e5
  have hM2 : Moved x x2 H n H2 n2 := Moved.trans hW ho2.W hA hfr hu (g1.trans g1') g2 hM1 hm2
  have hM3 : Moved x y2 H n (H2.upd b (.loop ts2 ps2 as2 bd2 (if jump.isNone then .ready else .done) jump)) n2 := Moved.trans hW f3 hA hfr hu gA g3 hM2 f5
  have hend := run_endRound (P := E.P) (jump := jump) l2
  rw [← f1] at hend
  have hfin : ∃ v w', (Instr.endRound p.blk jump).run E.P x2.w = .ok v w' ∧ ∃ v', Ending.returned v = .returned v' ∧ ∃ x', x'.w = w' ∧ RelW x' ∧ Ext x x' ∧ x'.H = patch x.H H (H2.upd b (.loop ts2 ps2 as2 bd2 (if jump.isNone then .ready else .done) jump)) ∧ Rel x' (.bool jump.isNone) v' ∧ ∀ b, x'.used b → x.used b ∨ (n ≤ b ∧ b < n2) :=
    ⟨_, _, hend, _, rfl, y2, rfl, f3, hM3.E, hM3.H, .bool _, hM3.U⟩
  cases out <;> simp only [jumpOf, Option.some.injEq, reduceCtorEq] at hj <;> subst hj <;> exact hfin

end Go.Abs
