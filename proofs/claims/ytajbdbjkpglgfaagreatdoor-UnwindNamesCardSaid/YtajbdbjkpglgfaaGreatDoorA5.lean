/- What is proved here serves the claim's last text: the interpreter of code and of functions, and that what it reckons is true of the program. It speaks of any program of the model. -/
import Derived.Test.YtajbdbjkpglgfaaGreatDoorA4
import Derived.RowKit3
import Derived.OpenShut
set_option linter.unusedSectionVars false
set_option linter.unusedSimpArgs false
set_option linter.unusedVariables false
namespace Go.Abs
open Go

inductive RC where
  | skip
  | reg (l : List RI)
  | regD (l : List RI) (prs : List (Nat × Nat))
  | seq (a b : RC)
  | cond (o : Operand) (a b : RC)
  | block (id : Nat) (a : RC)
  | loop (a : RC)
  | exit (id : Nat)
  | ret
  | scope (a : RC)
  | rfun (N : Nat) (g : Operand) (ps : Array Tmp) (as bd : Code)
  | bad
  deriving Inhabited

/-- A region that draws. -/
noncomputable def compD (P : Program) (N : Nat) (ops : Array Oper) : RC :=
  Bool.rec (motive := fun _ => RC) .bad
    (masksF ops.toList [] fun ms => looksF ops ops.toList fun lms => Bool.rec (motive := fun _ => RC) .bad
      (.regD (ops.toList.map (compI P ops)) (prsF (wmask (ops.toList.map (compI P ops)) 0) (ops.toList.map (compI P ops)) ms 0)) (drawF ops ms lms)) (regOk N ops)

theorem compD_eq (P : Program) (N : Nat) (ops : Array Oper) : compD P N ops = bif regOk N ops then (bif drawF ops (masks ops) (ops.toList.map (lookMask ops)) then .regD (ops.toList.map (compI P ops)) (prsF (wmask (ops.toList.map (compI P ops)) 0) (ops.toList.map (compI P ops)) (masks ops) 0) else .bad) else .bad := by
  simp only [compD, masksF_eq, looksF_eq]
  have e : mkMasks [] ops.toList = masks ops := rfl
  rw [e]
  cases regOk N ops <;> cases drawF ops (masks ops) (ops.toList.map (lookMask ops)) <;> rfl

/-- Code, with its operations resolved; rf: whether a range over a function may stand there. -/
noncomputable def comp (P : Program) (N : Nat) (rf : Bool) : Code → RC
  | .skip => .skip
  | .label _ => .skip
  | .region _ ops false => bif regOk N ops then .reg (ops.toList.map (compI P ops)) else .bad
  | .region _ ops true => compD P N ops
  | .seq a b => .seq (comp P N rf a) (comp P N rf b)
  | .cond o a b => .cond o (comp P N rf a) (comp P N rf b)
  | .block id a => .block id (comp P N rf a)
  | .loop a => .loop (comp P N rf a)
  | .exit id => .exit id
  | .ret => .ret
  | .scope a => .scope (comp P N rf a)
  | .rangeFunc g ps a b => bif rf then .rfun N g ps a b else .bad
  | _ => .bad

inductive Out where
  | normal
  | exit (id : Nat)
  | ret

def Out.toExit : Out → Exit
  | .normal => .normal
  | .exit id => .exit id
  | .ret => .ret

def pendOut : Option Code → Option Out
  | none => some .normal
  | some .ret => some .ret
  | some (.exit id) => some (.exit id)
  | _ => none

theorem pendOut_ok {pend : Option Code} {o : Out} (h : pendOut pend = some o) : jumpOut pend = some o.toExit := by
  unfold pendOut at h
  split at h
  · cases h; rfl
  · cases h; rfl
  · cases h; rfl
  · cases h

/-- The temporaries, as a list. -/
def tsOf (T : PT AV) : Nat → List AV → List AV
  | 0, l => l
  | n + 1, l => tsOf T n ((match T.get n with | some v => v | none => .any) :: l)

theorem tsOf_len (T : PT AV) : ∀ (n : Nat) (l : List AV), (tsOf T n l).length = n + l.length
  | 0, l => by simp [tsOf]
  | n + 1, l => by simp only [tsOf, tsOf_len T n, List.length_cons]; omega
theorem tsOf_get (T : PT AV) : ∀ (n : Nat) (l : List AV) (j : Nat), j < n → (tsOf T n l).getD j .any = (T.get j).getD .any
  | 0, l, j, h => by omega
  | n + 1, l, j, h => by
    have hd : ∀ (n : Nat) (l : List AV) (i : Nat), (tsOf T n l).getD (n + i) .any = l.getD i .any := by
      intro n
      induction n with
      | zero => intro l i; simp [tsOf]
      | succ n ih =>
        intro l i
        simp only [tsOf]
        rw [show n + 1 + i = n + (i + 1) by omega, ih]; simp
    simp only [tsOf]
    by_cases hj : j = n
    · subst hj
      have := hd j ((match T.get j with | some v => v | none => .any) :: l) 0
      rw [Nat.add_zero] at this
      rw [this]
      cases T.get j <;> rfl
    · exact tsOf_get T n _ j (by omega)

def evC (G : Nat → AV) (call : CallF) : Nat → RC → Mc → Option (Out × Mc)
  | 0, _, _ => none
  | f + 1, c, s => match c with
    | .skip => some (.normal, s)
    | .reg l => match evIs G call l s with | some (s', _) => some (.normal, s') | none => none
    | .regD l prs => match evIs G call l s with | some (s', ps) => bif confs ps prs then some (.normal, s') else none | none => none
    | .seq a b => match evC G call f a s with
      | some (.normal, s1) => evC G call f b s1
      | o => o
    | .cond o a b => match rho G s.T o with
      | .bool t => match t with | true => evC G call f a s | false => evC G call f b s
      | _ => none
    | .block id a => match evC G call f a s with
      | some (.exit id', s') => bif Nat.beq id' id then some (.normal, s') else some (.exit id', s')
      | o => o
    | .loop a => match evC G call f a s with
      | some (.normal, s1) => evC G call f (.loop a) s1
      | o => o
    | .exit id => some (.exit id, s)
    | .ret => some (.ret, s)
    | .scope a => evC G call f a s
    | .rfun N g ps a b => match rho G s.T g with
      | .fn (.func id) first cap => match call (.fn (.func id) first cap) [.yld s.n] (s.H.put s.n (some (.loop (tsOf s.T N []) ps a b .ready none))) (s.n + 1) with
        | some (_, H2, n2, ws, ks) => match H2.get s.n with
          | some (.loop _ _ _ _ st pend) => match st, pendOut pend with
            | .busy, _ => none
            | _, some o => some (o, ⟨s.T, H2.put s.n none, n2, s.w0, insW s.w0 ws s.ws, insW s.w0 ks s.ks⟩)
            | _, none => none
          | _ => none
        | none => none
      | _ => none
    | .bad => none

theorem scope_wpIn {F : Fence} {n : Nat} {P : Program} {c : Code} {Q : Exit → Act → World → Prop} {a : Act} {w : World} (h : c.wpIn F n P (fun e a w => match e with | .goto _ => False | e => Q e a w) a w) : (Code.scope c).wpIn F n P Q a w := by
  intro b k cs hro hb hr
  have h0 : (lone (b.atR a (.code (.scope c) :: k)) cs w).fenced P F := fenced_calm hb hr rfl
  have hs : step P (lone (b.atR a (.code (.scope c) :: k)) cs w) = .next (lone (b.atR a (.code c :: .inScope c :: k)) cs w) := step_lone_go (by simp [stepG, stepG.exec, Frame.atR])
  obtain ⟨e, a₁, w₁, hq, harr⟩ := h b (.inScope c :: k) cs hro hb hr
  have hx : ∀ id, exitTo id (.inScope c :: k) = exitTo id k := fun id => by simp [exitTo]
  cases e with
  | normal =>
    have hs2 : step P (lone (b.atR a₁ (.inScope c :: k)) cs w₁) = .next (lone (b.atR a₁ k) cs w₁) := step_lone_go (by simp [stepG, stepG.exec, Frame.atR])
    exact ⟨.normal, a₁, w₁, hq, .head h0 hs (StepsIn.trans harr (.one (fenced_calm hb hr rfl) hs2))⟩
  | exit id => exact ⟨.exit id, a₁, w₁, hq, fun k' hk => .head h0 hs (harr.1 k' (by rw [hx]; exact hk)), fun hr' hk => let ⟨k₁, h1, h2⟩ := harr.2 hr' (by rw [hx]; exact hk); ⟨k₁, h1, .head h0 hs h2⟩⟩
  | goto l => exact hq.elim
  | ret => exact ⟨_, a₁, w₁, hq, .of_steps (.one h0 hs) harr⟩
  | panic ch => exact ⟨_, a₁, w₁, hq, .of_steps (.one h0 hs) harr⟩
  | outgrown => exact ⟨_, a₁, w₁, hq, .of_steps (.one h0 hs) harr⟩

section
variable {E : Env} {ro : Option Nat} {call : CallF} {N N0 : Nat}

theorem Big.scope {c : Code} {s s' : St} {out : Exit} (h : Big E ro N c s out s') (hng : ∀ l, out ≠ .goto l) : Big E ro N (.scope c) s out s' := by
  refine ⟨h.g, fun hf x a ho hu Q hQ => scope_wpIn (h.run hf x a ho hu _ fun x1 a1 ho1 hm1 => ?_)⟩
  have := hQ x1 a1 ho1 hm1
  cases out <;> first | exact absurd rfl (hng _) | exact this

theorem evIs_low (hc : CallFOk E call) : ∀ {l : List RI} {s s' : Mc} {ps : List FP}, Fresh s.h s.n → s.w0 ≤ s.n → evIs E.G call l s = some (s', ps) → Low s s' ∧ Grow s.h s.n s'.h s'.n
  | [], s, s', ps, hf, hw, h => by
    simp only [evIs, Option.some.injEq, Prod.mk.injEq] at h
    obtain ⟨rfl, rfl⟩ := h
    exact ⟨.refl _, .refl hf⟩
  | ri :: l, s, s', ps, hf, hw, h => by
    simp only [evIs] at h
    split at h
    · cases h
    · rename_i s1 r ex p hev
      split at h
      · cases h
      · rename_i s2 ps' hl
        simp only [Option.some.injEq, Prod.mk.injEq] at h
        obtain ⟨rfl, rfl⟩ := h
        have hst := evI_ok (ro := none) hc hf hev
        have l1 := hst.lo hw
        obtain ⟨k1, k2⟩ := evIs_low hc hst.g.fresh (by rw [l1.w0]; exact Nat.le_trans hw hst.g.le) hl
        exact ⟨l1.trans k1, hst.g.trans k2⟩

theorem regOk_mono {ops : Array Oper} (h : regOk N0 ops = true) (hN : N0 ≤ N) : regOk N ops = true := by
  refine List.all_eq_true.2 fun o ho => ?_
  have := List.all_eq_true.1 h o ho
  simp only [Bool.and_eq_true] at this ⊢
  refine ⟨this.1, ?_⟩
  have h2 := this.2
  cases hd : o.dst with
  | none => simp [dstOk, hd]
  | some d =>
    simp only [dstOk, hd] at h2 ⊢
    have : d < N0 := by simpa using h2
    have : d < N := Nat.lt_of_lt_of_le this hN
    simpa using this

def Mc.st (s : Mc) : St := ⟨s.t, s.h, s.n⟩

theorem blockOut_eq (id id' : Nat) : blockOut id (Exit.exit id') = (bif Nat.beq id' id then Exit.normal else Exit.exit id') := by
  simp only [blockOut]
  by_cases h : id' = id
  · simp [h]
  · have : Nat.beq id' id = false := by
      cases hb : Nat.beq id' id with
      | false => rfl
      | true => exact absurd (Nat.eq_of_beq_eq_true hb) h
    simp [h, this]

theorem evC_ok (hmix : E.P.follows .mixedOrders = true) (hc : CallFOk E call) (hN : N0 ≤ N) {rf : Bool} (hrf : rf = true → ro = none) : ∀ (fuel : Nat),
    (∀ (c : Code) (s s' : Mc) (out : Out), Fresh s.h s.n → s.w0 ≤ s.n → evC E.G call fuel (.loop (comp E.P N0 rf c)) s = some (out, s') → BigL E ro N c s.st out.toExit s'.st ∧ Low s s' ∧ Grow s.h s.n s'.h s'.n) ∧
    (∀ (c : Code) (s s' : Mc) (out : Out), Fresh s.h s.n → s.w0 ≤ s.n → evC E.G call fuel (comp E.P N0 rf c) s = some (out, s') → Big E ro N c s.st out.toExit s'.st ∧ Low s s' ∧ Grow s.h s.n s'.h s'.n) := by
  intro fuel
  induction fuel with
  | zero => exact ⟨fun c s s' out _ _ h => by simp [evC] at h, fun c s s' out _ _ h => by simp [evC] at h⟩
  | succ f ih =>
    obtain ⟨ihL, ihC⟩ := ih
    have L : ∀ (c : Code) (s s' : Mc) (out : Out), Fresh s.h s.n → s.w0 ≤ s.n → evC E.G call (f + 1) (.loop (comp E.P N0 rf c)) s = some (out, s') → BigL E ro N c s.st out.toExit s'.st ∧ Low s s' ∧ Grow s.h s.n s'.h s'.n := by
      intro c s s' out hf hw h
      simp only [evC] at h
      split at h
      · rename_i s1 hs1
        obtain ⟨b1, l1, g1⟩ := ihC c s s1 .normal hf hw hs1
        obtain ⟨b2, l2, g2⟩ := ihL c s1 s' out g1.fresh (by rw [l1.w0]; exact Nat.le_trans hw g1.le) h
        exact ⟨.step b1 b2, l1.trans l2, g1.trans g2⟩
      · rename_i o hne
        obtain ⟨b1, l1, g1⟩ := ihC c s s' out hf hw h
        exact ⟨.last b1 (fun e => by cases out <;> simp [Out.toExit] at e; exact hne s' h), l1, g1⟩
    refine ⟨L, fun c s s' out hf hw h => ?_⟩
    cases c with
    | skip =>
      simp only [comp, evC, Option.some.injEq, Prod.mk.injEq] at h
      obtain ⟨rfl, rfl⟩ := h
      exact ⟨.skip, .refl _, .refl hf⟩
    | label l =>
      simp only [comp, evC, Option.some.injEq, Prod.mk.injEq] at h
      obtain ⟨rfl, rfl⟩ := h
      exact ⟨.label, .refl _, .refl hf⟩
    | region id ops d =>
      cases d with
      | false =>
        simp only [comp] at h
        cases hr : regOk N0 ops with
        | false => simp [hr, evC] at h
        | true =>
          simp only [hr, cond_true, evC] at h
          split at h
          · rename_i s1 ps hs1
            simp only [Option.some.injEq, Prod.mk.injEq] at h
            obtain ⟨rfl, rfl⟩ := h
            obtain ⟨l1, g1⟩ := evIs_low hc hf hw hs1
            exact ⟨Big.reg hc (regOk_mono hr hN) rfl hf hs1, l1, g1⟩
          · cases h
      | true =>
        simp only [comp, compD_eq] at h
        cases hr : regOk N0 ops with
        | false => simp [hr, evC] at h
        | true =>
          cases hd : drawF ops (masks ops) (ops.toList.map (lookMask ops)) with
          | false => simp [hr, hd, evC] at h
          | true =>
            simp only [hr, hd, cond_true, evC] at h
            obtain ⟨d1, d2⟩ := drawF_ok hd
            split at h
            · rename_i s1 ps hs1
              obtain ⟨hcf, h⟩ := bif_some h
              simp only [Prod.mk.injEq] at h
              obtain ⟨rfl, rfl⟩ := h
              obtain ⟨l1, g1⟩ := evIs_low hc hf hw hs1
              exact ⟨Big.regD hmix hc (regOk_mono hr hN) rfl d1 d2 (prsF_ok rfl) hf hs1 hcf, l1, g1⟩
            · cases h
    | seq a b =>
      simp only [comp, evC] at h
      split at h
      · rename_i s1 hs1
        obtain ⟨b1, l1, g1⟩ := ihC a s s1 .normal hf hw hs1
        obtain ⟨b2, l2, g2⟩ := ihC b s1 s' out g1.fresh (by rw [l1.w0]; exact Nat.le_trans hw g1.le) h
        exact ⟨.seq b1 b2, l1.trans l2, g1.trans g2⟩
      · rename_i o hne
        obtain ⟨b1, l1, g1⟩ := ihC a s s' out hf hw h
        exact ⟨.seq_out b1 (fun e => by cases out <;> simp [Out.toExit] at e; exact hne s' h), l1, g1⟩
    | cond o a b =>
      simp only [comp, evC] at h
      split at h
      · rename_i t ht
        rw [rho_eq] at ht
        cases t with
        | true =>
          obtain ⟨b1, l1, g1⟩ := ihC a s s' out hf hw h
          exact ⟨.cond (t := true) ht b1, l1, g1⟩
        | false =>
          obtain ⟨b1, l1, g1⟩ := ihC b s s' out hf hw h
          exact ⟨.cond (t := false) ht b1, l1, g1⟩
      · cases h
    | block id a =>
      simp only [comp, evC] at h
      split at h
      · rename_i id' s1 hs1
        obtain ⟨b1, l1, g1⟩ := ihC a s s1 (.exit id') hf hw hs1
        have hb := Big.block (id := id) b1
        simp only [Out.toExit, blockOut_eq] at hb
        cases hh : Nat.beq id' id with
        | true =>
          simp only [hh, cond_true, Option.some.injEq, Prod.mk.injEq] at h hb
          obtain ⟨rfl, rfl⟩ := h
          exact ⟨hb, l1, g1⟩
        | false =>
          simp only [hh, cond_false, Option.some.injEq, Prod.mk.injEq] at h hb
          obtain ⟨rfl, rfl⟩ := h
          exact ⟨hb, l1, g1⟩
      · rename_i o hne
        obtain ⟨b1, l1, g1⟩ := ihC a s s' out hf hw h
        have hb := Big.block (id := id) b1
        cases out with
        | exit id' => exact absurd h (hne id' s')
        | normal => exact ⟨hb, l1, g1⟩
        | ret => exact ⟨hb, l1, g1⟩
    | loop a =>
      obtain ⟨b1, l1, g1⟩ := L a s s' out hf hw h
      exact ⟨.loop b1, l1, g1⟩
    | exit id =>
      simp only [comp, evC, Option.some.injEq, Prod.mk.injEq] at h
      obtain ⟨rfl, rfl⟩ := h
      exact ⟨.exit, .refl _, .refl hf⟩
    | ret =>
      simp only [comp, evC, Option.some.injEq, Prod.mk.injEq] at h
      obtain ⟨rfl, rfl⟩ := h
      exact ⟨.ret, .refl _, .refl hf⟩
    | scope a =>
      simp only [comp, evC] at h
      obtain ⟨b1, l1, g1⟩ := ihC a s s' out hf hw h
      exact ⟨.scope b1 (fun l e => by cases out <;> cases e), l1, g1⟩
    | goto l => simp [comp, evC] at h
    | rangeFunc g ps a b =>
      cases rf with
      | false => simp [comp, evC] at h
      | true =>
        obtain rfl := hrf rfl
        simp only [comp, cond_true, evC] at h
        split at h
        · rename_i id first cap hg
          split at h
          · rename_i r H2 n2 ws ks hcall
            split at h
            · rename_i ts' ps' as' bd' st pend hl
              split at h
              · cases h
              · rename_i o hst hp
                simp only [Option.some.injEq, Prod.mk.injEq] at h
                obtain ⟨rfl, rfl⟩ := h
                rw [rho_eq] at hg
                have hput : (s.H.put s.n (some (.loop (tsOf s.T N0 []) ps a b .ready none))).get = s.h.upd s.n (.loop (tsOf s.T N0 []) ps a b .ready none) := by
                  funext i; simp only [PT.get_put, Heap.upd, Mc.h]
                have hfr1 : Fresh (s.H.put s.n (some (.loop (tsOf s.T N0 []) ps a b .ready none))).get (s.n + 1) := fun i hi => by
                  rw [hput]; simp only [Heap.upd, if_neg (show i ≠ s.n by omega)]; exact hf i (by omega)
                obtain ⟨k1, k2, k3⟩ := hc _ _ _ _ _ _ _ _ _ hcall hfr1
                have hdel : (H2.put s.n none).get = Heap.del H2.get s.n := by funext i; simp only [PT.get_put, Heap.del]
                rw [hput] at k1 k2
                have hb := Big.rfun (E := E) (N := N) (s := s.st) (g := g) (ps := ps) (as := a) (bd := b) (f := id) (first := first) (cap := cap) (ts := tsOf s.T N0 []) (r := r) (H2 := H2.get) (n2 := n2) (out := o.toExit)
                  hg (k3 id first cap rfl) (by rw [tsOf_len]; simpa using hN) (fun j hj => by rw [tsOf_len] at hj; exact tsOf_get _ _ _ _ (by simpa using hj)) k1 hl (fun e => hst e) (pendOut_ok hp)
                have hst' : (Mc.mk s.T (H2.put s.n none) n2 s.w0 (insW s.w0 ws s.ws) (insW s.w0 ks s.ks)).st = ⟨s.st.T, Heap.del H2.get s.st.n, n2⟩ := by
                  simp only [Mc.st]
                  congr 1
                refine ⟨by rw [hst']; exact hb, ⟨rfl, fun i hi => insW_old hi, fun i hi => insW_old hi, ⟨fun i h1 h2 => ?_, fun i h1 h2 o1 ho1 => ?_⟩⟩, ?_⟩
                · have hne : i ≠ s.n := by omega
                  show (H2.put s.n none).get i = s.h i
                  rw [hdel]; simp only [Heap.del, if_neg hne]
                  rw [k2.w i (by omega) (fun q => h2 (insW_new q h1))]; simp only [Heap.upd, if_neg hne]
                · have hne : i ≠ s.n := by omega
                  obtain ⟨o2, e1, e2⟩ := k2.k i (by omega) (fun q => h2 (insW_new q h1)) o1 (by simp only [Heap.upd, if_neg hne]; exact ho1)
                  refine ⟨o2, ?_, e2⟩
                  show (H2.put s.n none).get i = _
                  rw [hdel]; simp only [Heap.del, if_neg hne]; exact e1
                · have := hb.g hf
                  rw [← hst'] at this
                  exact this
              · cases h
            · cases h
          · cases h
        · cases h
    | refuse w => simp [comp, evC] at h

end
end Go.Abs

namespace Go.Abs
open Go

inductive RRes where
  | tmp (t : Nat)
  | cell (a : Nat) (agg : Bool) (n : Nat)
  deriving Inhabited

structure RFn where
  body : RC
  res : List RRes
  deriving Inhabited

def compR (P : Program) : ResultVar → Option RRes
  | .tmp t => some (.tmp t)
  | .cell a ty => match P.underlying ty, P.info? ty with
    | some d, some i => bif isAggD d || Nat.beq i.size 1 then some (.cell a (isAggD d) i.size) else none
    | _, _ => none

def evR (s : Mc) : RRes → Option AV
  | .tmp t => some (match s.T.get t with | some v => v | none => .any)
  | .cell a agg n => match s.T.get a with
    | some v => match behindB s.H.get v with
      | some (cs, off) => bif Nat.ble (off + n) cs.length then some (ld agg (seg cs off n)) else none
      | none => none
    | none => none

def allSome {α β : Type} (f : α → Option β) : List α → Option (List β)
  | [] => some []
  | a :: l => match f a with
    | some b => match allSome f l with | some bs => some (b :: bs) | none => none
    | none => none

theorem allSome_ok {α β : Type} {f : α → Option β} : ∀ {l : List α} {bs : List β}, allSome f l = some bs → bs.length = l.length ∧ ∀ i (h : i < l.length), ∃ b, bs[i]? = some b ∧ f l[i] = some b
  | [], bs, h => by simp only [allSome, Option.some.injEq] at h; subst h; exact ⟨rfl, fun i h => by simp at h⟩
  | a :: l, bs, h => by
    simp only [allSome] at h
    split at h
    · rename_i b hb
      split at h
      · rename_i bs' hbs
        simp only [Option.some.injEq] at h; subst h
        obtain ⟨h1, h2⟩ := allSome_ok hbs
        refine ⟨by simp [h1], fun i hi => ?_⟩
        cases i with
        | zero => exact ⟨b, by simp, by simpa using hb⟩
        | succ i =>
          obtain ⟨b', e1, e2⟩ := h2 i (by simpa using hi)
          exact ⟨b', by simpa using e1, by simpa using e2⟩
      · cases h
    · cases h

def argsT : List AV → Nat → PT AV → PT AV
  | [], _, T => T
  | a :: l, i, T => argsT l (i + 1) (T.put i (some a))
def argsK {β : Type} : List AV → Nat → PT AV → (PT AV → β) → β
  | [], _, T, k => k T
  | a :: l, i, T, k => a.headK fun a => T.putK i (some a) fun T => natK (i + 1) fun i => argsK l i T k
theorem argsK_eq {β : Type} : ∀ (l : List AV) (i : Nat) (T : PT AV) (k : PT AV → β), argsK l i T k = k (argsT l i T)
  | [], _, _, _ => rfl
  | a :: l, i, T, k => by simp only [argsK, argsT, AV.headK_eq, PT.putK_eq, natK_eq, argsK_eq l]
theorem argsT_get : ∀ (l : List AV) (i : Nat) (T : PT AV) (t : Nat), (argsT l i T).get t = if i ≤ t ∧ t < i + l.length then l[t - i]? else T.get t
  | [], i, T, t => by simp only [argsT, List.length_nil]; rw [if_neg (by omega)]
  | a :: l, i, T, t => by
    simp only [argsT, argsT_get l, PT.get_put, List.length_cons]
    by_cases h : t = i
    · subst h; rw [if_neg (by omega), if_pos rfl, if_pos (by omega)]; simp
    · by_cases h1 : i + 1 ≤ t ∧ t < i + 1 + l.length
      · rw [if_pos h1, if_pos (by omega)]
        obtain ⟨k, rfl⟩ : ∃ k, t = i + 1 + k := ⟨t - (i + 1), by omega⟩
        rw [show i + 1 + k - (i + 1) = k by omega, show i + 1 + k - i = k + 1 by omega]; simp
      · rw [if_neg h1, if_neg h, if_neg (by omega)]

abbrev OrcF := Nat → List AV → PT AObj → Nat → Option (AV × PT AObj × Nat × List Nat × List Nat)

def setPs : List Nat → List AV → PT AV → PT AV
  | t :: ps, a :: l, T => setPs ps l (T.put t (some a))
  | _, _, T => T

theorem setPs_get : ∀ (ps : List Nat) (l : List AV) (T : PT AV), (fun t => ((setPs ps l T).get t).getD .any) = setTs (fun t => (T.get t).getD .any) (ps.zip l)
  | [], l, T => rfl
  | t :: ps, [], T => rfl
  | t :: ps, a :: l, T => by
    simp only [setPs, List.zip_cons_cons, setTs]
    rw [setPs_get ps l]
    congr 1
    funext i
    simp only [PT.get_put]
    split <;> rfl

def jumpC : Out → Option Code
  | .normal => none
  | .exit id => some (.exit id)
  | .ret => some .ret
theorem jumpC_ok (o : Out) : jumpOf o.toExit = some (jumpC o) := by cases o <;> rfl

def doneSt (j : Option Code) : LoopState := if j.isNone then .ready else .done

def orcSel (orc : OrcF) (id : Nat) (first cap as : List AV) (H : PT AObj) (n : Nat) : Option (AV × PT AObj × Nat × List Nat × List Nat) := match first, cap with | [], [] => orc id as H n | _, _ => none

noncomputable def evF (P : Program) (G : Nat → AV) (tab : Nat → Option RFn) (orc : OrcF) (F : Nat) : Nat → CallF
  | 0 => fun _ _ _ _ => none
  | f + 1 => fun fv as H n => match fv with
    | .fn (.func id) first cap =>
      match orcSel orc id first cap as H n with
      | some x => some x
      | none => match tab id with
        | none => none
        | some rf => argsK (first ++ as ++ cap) 0 .leaf fun T => match evC G (evF P G tab orc F f) F rf.body ⟨T, H, n, n, [], []⟩ with
          | some (out, s') => match out with
            | .exit _ => none
            | _ => match allSome (evR s') rf.res with
              | some rs => some (resultAV rs, s'.H, s'.n, s'.ws, s'.ks)
              | none => none
          | none => none
    | .yld b => match H.get b with
      | some (.loop ts ps asg bd .ready _) => match Nat.beq ps.size as.length && ps.toList.all fun t => Nat.blt t ts.length with
        | true => match evC G (evF P G tab orc F f) F (comp P ts.length false asg) ⟨setPs ps.toList as (argsT ts 0 .leaf), H, n, n, [], []⟩ with
          | some (.normal, s1) => match s1.H.get b with
            | some (.loop ts1 ps1 as1 bd1 .ready pend1) => match evC G (evF P G tab orc F f) F (comp P ts.length false bd) ⟨s1.T, s1.H.put b (some (.loop ts1 ps1 as1 bd1 .busy pend1)), s1.n, s1.w0, insW s1.w0 [b] s1.ws, s1.ks⟩ with
              | some (out, s2) => match s2.H.get b with
                | some (.loop ts2 ps2 as2 bd2 _ _) => some (.bool (jumpC out).isNone, s2.H.put b (some (.loop ts2 ps2 as2 bd2 (doneSt (jumpC out)) (jumpC out))), s2.n, insW s2.w0 [b] s2.ws, s2.ks)
                | _ => none
              | none => none
            | _ => none
          | _ => none
        | false => none
      | _ => none
    | _ => none

def TabOk (E : Env) (tab : Nat → Option RFn) : Prop := ∀ id rf, tab id = some rf → ∃ fn c, E.P.funcs[id]? = some fn ∧ fn.body = some c ∧ (fn.name == "runtime.NumGoroutine") = false ∧ rf.body = comp E.P fn.ntmps true c ∧ allSome (compR E.P) fn.results.toList = some rf.res

def OrcOk (E : Env) (orc : OrcF) : Prop := ∀ id as H n r H' n' ws ks, orc id as H n = some (r, H', n', ws, ks) → Fresh H.get n → CallOk E (.fn (.func id) [] []) as H.get n r H'.get n' ∧ Kept H.get n ws ks H'.get ∧ HasBody E id

theorem evR_ok {E : Env} {s : Mc} {rv : ResultVar} {rr : RRes} {r : AV} (hc : compR E.P rv = some rr) (h : evR s rr = some r) : ResOk E.P s.t s.h rv r := by
  cases rv with
  | tmp t =>
    simp only [compR, Option.some.injEq] at hc; subst hc
    simp only [evR, Option.some.injEq] at h; subst h
    have : (match s.T.get t with | some v => v | none => .any) = s.t t := by simp only [Mc.t]; cases s.T.get t <;> rfl
    rw [this]; exact .tmp
  | cell a ty =>
    simp only [compR] at hc
    split at hc
    · rename_i d i hU hI
      obtain ⟨h1, h2⟩ := bif_some hc
      subst h2
      simp only [evR] at h
      split at h
      · rename_i v hv
        split at h
        · rename_i cs off hb
          obtain ⟨h3, h4⟩ := bif_some h
          subst h4
          have e : s.t a = v := by simp [Mc.t, hv]
          refine .cell hU hI ?_ (by rw [e]; exact behindB_ok hb) (by simpa using h3)
          simpa using h1
        · cases h
      · cases h
    · cases hc

theorem evF_ok {E : Env} (hmix : E.P.follows .mixedOrders = true) {tab : Nat → Option RFn} (ht : TabOk E tab) {orc : OrcF} (ho : OrcOk E orc) (F : Nat) : ∀ fuel, CallFOk E (evF E.P E.G tab orc F fuel) := by
  intro fuel
  induction fuel with
  | zero => intro fv as H n r H' n' ws ks h _; simp [evF] at h
  | succ f ih =>
    intro fv as H n r H' n' ws ks h hf
    unfold evF at h
    split at h
    · rename_i id first cap
      split at h
      · rename_i x hx
        unfold orcSel at hx
        split at hx
        · simp only [Option.some.injEq] at h
          subst h
          obtain ⟨o1, o2, o3⟩ := ho _ _ _ _ _ _ _ _ _ hx hf
          exact ⟨o1, o2, fun f first cap e => by cases e; exact o3⟩
        · cases hx
      · split at h
        · cases h
        · rename_i rf hrf
          obtain ⟨fn, c, e1, e2, e3, e4, e5⟩ := ht id rf hrf
          rw [argsK_eq] at h
          have body : ∀ out s', evC E.G (evF E.P E.G tab orc F f) F rf.body ⟨argsT (first ++ as ++ cap) 0 .leaf, H, n, n, [], []⟩ = some (out, s') → (out = .normal ∨ out = .ret) → ∀ rs, allSome (evR s') rf.res = some rs →
              CallOk E (.fn (.func id) first cap) as H.get n (resultAV rs) s'.H.get s'.n ∧ Kept H.get n s'.ws s'.ks s'.H.get ∧ ∀ f first' cap', AV.fn (.func id) first cap = .fn (.func f) first' cap' → HasBody E f := by
            intro out s' hev hout rs hrs
            rw [e4] at hev
            have b1 : ∀ m, Big { E with base := m } none (max fn.ntmps (first ++ as ++ cap).length) c (Mc.mk (argsT (first ++ as ++ cap) 0 .leaf) H n n [] []).st out.toExit s'.st := fun m =>
              ((evC_ok (E := { E with base := m }) (ro := none) (N := max fn.ntmps (first ++ as ++ cap).length) hmix (fun a b c d e f g h i j k => ih a b c d e f g h i j k) (Nat.le_max_left _ _) (rf := true) (fun _ => rfl) F).2 c ⟨argsT (first ++ as ++ cap) 0 .leaf, H, n, n, [], []⟩ s' out hf (Nat.le_refl _) hev).1
            obtain ⟨-, l1, g1⟩ := (evC_ok (ro := none) (N := max fn.ntmps (first ++ as ++ cap).length) hmix ih (Nat.le_max_left _ _) (rf := true) (fun _ => rfl) F).2 c ⟨argsT (first ++ as ++ cap) 0 .leaf, H, n, n, [], []⟩ s' out hf (Nat.le_refl _) hev
            obtain ⟨r1, r2⟩ := allSome_ok e5
            obtain ⟨q1, q2⟩ := allSome_ok hrs
            refine ⟨CallOk.func (N := max fn.ntmps (first ++ as ++ cap).length) (T := (Mc.mk (argsT (first ++ as ++ cap) 0 .leaf) H n n [] []).t) (T' := s'.t) (out := out.toExit) (rs := rs) e1 e2 e3 rfl (fun t => ?_) hf b1 ?_ (by simp at r1; omega) (fun j hj => ?_), l1.kept, fun f first' cap' e => by cases e; exact ⟨fn, c, e1, e2, e3⟩⟩
            · simp only [Mc.t, argsT_get]
              by_cases hlt : t < (first ++ as ++ cap).length
              · rw [if_pos (by omega)]; simp [List.getD_eq_getElem?_getD]
              · rw [if_neg (by omega), List.getD_eq_getElem?_getD, List.getElem?_eq_none (by omega)]; rfl
            · rcases hout with rfl | rfl <;> simp [Out.toExit]
            · obtain ⟨rr, k1, k2⟩ := r2 j (by simpa using hj)
              have hjr : j < rf.res.length := by simp at r1; omega
              obtain ⟨v, k3, k4⟩ := q2 j hjr
              have e : rf.res[j] = rr := by rw [List.getElem?_eq_getElem hjr] at k1; exact Option.some.inj k1
              rw [e] at k4
              rw [List.getD_eq_getElem?_getD, k3]
              exact evR_ok (by simpa using k2) k4
          split at h
          · rename_i out s' hev
            split at h
            · cases h
            · rename_i hne
              split at h
              · rename_i rs hrs
                simp only [Option.some.injEq, Prod.mk.injEq] at h
                obtain ⟨rfl, rfl, rfl, rfl, rfl⟩ := h
                refine body out s' hev ?_ rs hrs
                cases out with
                | exit id => exact absurd rfl (hne id)
                | normal => exact .inl rfl
                | ret => exact .inr rfl
              · cases h
          · cases h
    · rename_i b
      split at h
      · rename_i ts ps asg bd pend hb
        split at h
        · rename_i hc
          simp only [Bool.and_eq_true] at hc
          obtain ⟨hc1, hc2⟩ := hc
          split at h
          · rename_i s1 hs1
            split at h
            · rename_i ts1 ps1 as1 bd1 pend1 hb1
              split at h
              · rename_i out s2 hs2
                split at h
                · rename_i ts2 ps2 as2 bd2 st2 pend2 hb2
                  simp only [Option.some.injEq, Prod.mk.injEq] at h
                  obtain ⟨rfl, rfl, rfl, rfl, rfl⟩ := h
                  have hbn : b < n := Nat.lt_of_not_le fun hh => by
                    have := hf b hh
                    rw [hb] at this; cases this
                  let s0 : Mc := ⟨setPs ps.toList as (argsT ts 0 .leaf), H, n, n, [], []⟩
                  let s1' : Mc := ⟨s1.T, s1.H.put b (some (.loop ts1 ps1 as1 bd1 .busy pend1)), s1.n, s1.w0, insW s1.w0 [b] s1.ws, s1.ks⟩
                  have r1 := fun m l N (hN : ts.length ≤ N) => (evC_ok (E := { E with base := m }) (ro := some l) (N := N) hmix (fun a b c d e f g h i j k => ih a b c d e f g h i j k) hN (rf := false) (fun e => by cases e) F).2 asg s0 s1 .normal hf (Nat.le_refl _) hs1
                  obtain ⟨-, l1, g1⟩ := r1 0 0 _ (Nat.le_refl _)
                  have hput : ∀ (H : PT AObj) (o : AObj), (H.put b (some o)).get = Heap.upd H.get b o := fun H o => by funext i; simp only [PT.get_put, Heap.upd]
                  have hf1 : Fresh s1'.h s1'.n := fun i hi => by
                    show (s1.H.put b _).get i = none
                    have : i ≠ b := by have := g1.le; have hi : s1.n ≤ i := hi; have h3 : s0.n = n := rfl; omega
                    rw [hput]; simp only [Heap.upd, if_neg this]; exact g1.fresh i hi
                  have hw1 : s1'.w0 ≤ s1'.n := by
                    have h3 : s1'.w0 = n := l1.w0
                    rw [h3]; exact g1.le
                  have r2 := fun m l N (hN : ts.length ≤ N) => (evC_ok (E := { E with base := m }) (ro := some l) (N := N) hmix (fun a b c d e f g h i j k => ih a b c d e f g h i j k) hN (rf := false) (fun e => by cases e) F).2 bd s1' s2 out hf1 hw1 hs2
                  obtain ⟨-, l2, g2⟩ := r2 0 0 _ (Nat.le_refl _)
                  have hT0 : s0.t = setTs (fun t => ts.getD t .any) (ps.toList.zip as) := by
                    refine (setPs_get ps.toList as (argsT ts 0 .leaf)).trans ?_
                    congr 1
                    funext t
                    simp only [argsT_get]
                    by_cases hlt : t < ts.length
                    · rw [if_pos (by omega)]; simp [List.getD_eq_getElem?_getD]
                    · rw [if_neg (by omega), List.getD_eq_getElem?_getD, List.getElem?_eq_none (by omega)]; rfl
                  have hok := CallOk.yld (E := E) (b := b) (n := n) (n1 := s1.n) (n2 := s2.n) (H := H.get) (H1 := s1.h) (H2 := s2.h) (T1 := s1.t) (T2 := s2.t) (args := as) (out := out.toExit) (jump := jumpC out)
                    hb (Nat.eq_of_beq_eq_true hc1) (fun t ht => by simpa using List.all_eq_true.1 hc2 t ht) hf
                    (fun m l N hN => by have := (r1 m l N hN).1; rw [← hT0]; exact this) hb1
                    (fun m l N hN => by
                      have := (r2 m l N hN).1
                      have e : s1'.st = ⟨s1.t, s1.h.upd b (.loop ts1 ps1 as1 bd1 .busy pend1), s1.n⟩ := by
                        simp only [Mc.st, s1']
                        congr 1
                        exact hput _ _
                      rw [← e]; exact this) hb2 (jumpC_ok out)
                  refine ⟨?_, ⟨fun i h1 h2 => ?_, fun i h1 h2 o ho => ?_⟩, fun f first cap e => by cases e⟩
                  · rw [hput]; exact hok
                  · have hw0 : s2.w0 = n := l2.w0.trans l1.w0
                    have hne : i ≠ b := fun e => h2 (insW_new (by simp [e]) (by rw [hw0]; exact h1))
                    have n2 : i ∉ s2.ws := fun q => h2 (insW_old q)
                    have n1 : i ∉ s1'.ws := fun q => n2 (l2.ws i q)
                    have n0 : i ∉ s1.ws := fun q => n1 (insW_old q)
                    rw [hput]; simp only [Heap.upd, if_neg hne]
                    have e2 : s2.H.get i = s1'.h i := l2.kept.w i (by show i < s1.w0; rw [l1.w0]; exact h1) n2
                    have e1 : s1'.h i = s1.h i := by show (s1.H.put b _).get i = _; rw [hput]; simp only [Heap.upd, if_neg hne]; rfl
                    have e0 : s1.h i = H.get i := l1.kept.w i h1 n0
                    rw [e2, e1, e0]
                  · have n2 : i ∉ s2.ks := h2
                    have n1 : i ∉ s1.ks := fun q => n2 (l2.ks i q)
                    obtain ⟨o1, a1, b1⟩ := l1.kept.k i h1 n1 o ho
                    have hw : i < s1'.w0 := by show i < s1.w0; rw [l1.w0]; exact h1
                    have hstep : ∃ o1', s1'.h i = some o1' ∧ o1.like o1' := by
                      show ∃ o1', (s1.H.put b _).get i = some o1' ∧ _
                      rw [hput]
                      by_cases hne : i = b
                      · subst hne
                        have a1 : s1.H.get i = some o1 := a1
                        rw [hb1] at a1; cases a1
                        exact ⟨.loop ts1 ps1 as1 bd1 .busy pend1, by simp [Heap.upd], trivial⟩
                      · exact ⟨o1, by simp only [Heap.upd, if_neg hne]; exact a1, o1.like_refl⟩
                    obtain ⟨o1', c1, d1⟩ := hstep
                    obtain ⟨o2, a2, b2⟩ := l2.kept.k i hw n2 o1' c1
                    rw [hput]
                    by_cases hne : i = b
                    · subst hne
                      have a2 : s2.H.get i = some o2 := a2
                      rw [hb2] at a2; cases a2
                      refine ⟨.loop ts2 ps2 as2 bd2 (doneSt (jumpC out)) (jumpC out), by simp [Heap.upd], ?_⟩
                      have := AObj.like_trans b1 (AObj.like_trans d1 b2)
                      cases o <;> simp_all [AObj.like]
                    · exact ⟨o2, by simp only [Heap.upd, if_neg hne]; exact a2, AObj.like_trans b1 (AObj.like_trans d1 b2)⟩
                · cases h
              · cases h
            · cases h
          · cases h
        · cases h
      · cases h
    · cases h

end Go.Abs

namespace Go.Abs
open Go

mutual
theorem AV.rename_id : ∀ a : AV, a.rename (fun b => b) = a
  | .iptr cs off => by simp only [AV.rename, AV.renameL_id cs]
  | .sl sz es => by simp only [AV.rename, AV.renameL_id es]
  | .fn f first cap => by simp only [AV.rename, AV.renameL_id first, AV.renameL_id cap]
  | .agg cs => by simp only [AV.rename, AV.renameL_id cs]
  | .tup cs => by simp only [AV.rename, AV.renameL_id cs]
  | .any => rfl | .bool _ => rfl | .int _ _ => rfl | .str _ => rfl | .nilp => rfl | .ptr _ _ => rfl | .eptr _ _ _ => rfl | .nils => rfl | .row _ _ _ => rfl | .nilm => rfl | .map _ => rfl | .nilf => rfl | .raw _ => rfl | .yld _ => rfl | .itr _ _ => rfl | .vsl _ _ _ _ => rfl
theorem AV.renameL_id : ∀ l : List AV, AV.renameL (fun b => b) l = l
  | [] => rfl
  | a :: l => by simp only [AV.renameL, AV.rename_id a, AV.renameL_id l]
end

/-- A value that names nothing of the run's own. -/
def AV.free (a : AV) : Prop := a.refsIn (fun _ => False)

theorem Rel.free {x y : Ctx} {a : AV} {v : Value} (h : Rel x a v) (hf : a.free) (hZ : ∀ i, x.ZV i → y.ZV i) (hw : y.w = x.w) : Rel y a v :=
  Rel.pull (S := fun _ => False) (g := fun b => b) (y := x) (x := y) ⟨fun _ h => h.elim, hZ, hw, fun _ _ h => h.elim⟩ h a (AV.rename_id a).symm hf

/-- a0 is a, with what it leads to in H read out. -/
inductive Frz (Q : AV → Prop) (H : Heap) : AV → AV → Prop
  | same {a : AV} (h : Q a) : Frz Q H a a
  | agg {cs cs0 : List AV} (hl : cs0.length = cs.length) (h : ∀ j, j < cs.length → Frz Q H (cs.getD j .any) (cs0.getD j .any)) : Frz Q H (.agg cs) (.agg cs0)
  | tup {cs cs0 : List AV} (hl : cs0.length = cs.length) (h : ∀ j, j < cs.length → Frz Q H (cs.getD j .any) (cs0.getD j .any)) : Frz Q H (.tup cs) (.tup cs0)
  | row {b off n sz : Nat} {es es0 : List AV} (hb : H b = some (.row sz es)) (hn : off + n ≤ es.length) (hl : es0.length = n) (h : ∀ j, j < n → Frz Q H (es.getD (off + j) .any) (es0.getD j .any)) : Frz Q H (.row b off n) (.sl sz es0)

/-- What holds of a value holds of its cells. -/
def CellsQ (Q : AV → Prop) : Prop := ∀ a, Q a → ∀ c ∈ a.cells, Q c

theorem Frz.cells {Q : AV → Prop} (hQ : CellsQ Q) {H : Heap} {a a0 : AV} (h : Frz Q H a a0) : a0.cells.length = a.cells.length ∧ ∀ j, j < a.cells.length → Frz Q H (a.cells.getD j .any) (a0.cells.getD j .any) := by
  cases h with
  | same h => exact ⟨rfl, fun j hj => .same (hQ _ h _ (getD_mem _ hj))⟩
  | agg hl h => exact ⟨hl, h⟩
  | tup hl h =>
    refine ⟨rfl, fun j hj => ?_⟩
    obtain rfl : j = 0 := by simpa [AV.cells] using hj
    exact .tup hl h
  | row hb hn hl h =>
    refine ⟨rfl, fun j hj => ?_⟩
    obtain rfl : j = 0 := by simpa [AV.cells] using hj
    exact .row hb hn hl h

theorem Frz.nagg {Q : AV → Prop} {H : Heap} {a a0 : AV} (h : Frz Q H a a0) (ha : ∀ cs, a ≠ .agg cs) : ∀ cs, a0 ≠ .agg cs := by
  cases h with
  | same h => exact ha
  | agg _ _ => exact absurd rfl (ha _)
  | tup _ _ => intro cs h; cases h
  | row _ _ _ _ => intro cs h; cases h

/-- What y must know of x: the same world; all blocks of x's objects may be pointed into. -/
structure Froze (Q : AV → Prop) (x y : Ctx) : Prop where
  w : y.w = x.w
  same : ∀ a v, Q a → Rel x a v → Rel y a v
  objs : ∀ b o p, x.H b = some o → x.ι b = some p → y.ZV p.blk

theorem Frz.rel {Q : AV → Prop} (hQ : CellsQ Q) {x y : Ctx} {H : Heap} (hW : RelW x) (hA : AgS Full Full x H) (hf : Froze Q x y) {a a0 : AV} (h : Frz Q H a a0) : ∀ {v : Value}, Rel x a v → Rel y a0 v := by
  induction h with
  | same h => exact fun hr => hf.same _ _ h hr
  | @agg cs cs0 hl h ih =>
    intro v hr
    generalize hq : AV.agg cs = q at hr
    cases hr with
    | agg cs' vs hs hr =>
      cases hq
      exact .agg _ _ (by rw [hl]; exact hs) fun j hj => ih j (by omega) (hr j (by omega))
    | _ => cases hq
  | @tup cs cs0 hl h ih =>
    intro v hr
    generalize hq : AV.tup cs = q at hr
    cases hr with
    | tup cs' vs hs hr =>
      cases hq
      exact .tup _ _ (by rw [hl]; exact hs) fun j hj => ih j (by omega) (hr j (by omega))
    | _ => cases hq
  | @row b off n sz es es0 hb hn hl h ih =>
    intro v hr
    generalize hq : AV.row b off n = q at hr
    cases hr with
    | row b off n v hu hv h' =>
      cases hq
      have hxb := hA.at trivial hu hb
      obtain ⟨_, A, cap, rfl, hcap, _, h5⟩ := h' _ _ hxb
      subst hl
      have hobj := (hW.live b _ hxb).2
      have hsz : ∀ e ∈ es, e.cells.length = sz := hobj.1
      have hsz0 : ∀ e ∈ es0, e.cells.length = sz := fun e he => by
        obtain ⟨j, hj, rfl⟩ := mem_getD .any he
        rw [((h j hj).cells hQ).1]; exact hsz _ (getD_mem _ (by omega))
      by_cases hne : es0 = []
      · subst hne
        exact .sl sz [] A cap (fun _ _ => default) hcap (fun e he => by cases he) (fun hh => absurd rfl hh) fun i j hi => by simp at hi
      · have hpos : 0 < es0.length := List.length_pos_iff.2 hne
        rcases h5 with ⟨h0, _⟩ | ⟨p, hp, hAp, hroom⟩
        · omega
        · -- the cells of one element
          have elem : ∀ i, i < es0.length → ∃ g : Nat → Value, (∀ j, j < sz → x.w.cell? ⟨p.blk, p.base + off * sz + i * sz + j, none⟩ = some (g j)) ∧ ∀ j, j < sz → Rel x ((es.getD (off + i) .any).cells.getD j .any) (g j) := fun i hi => by
            have hrel : Rel x (.eptr b (off + i) 0) (.pointer (some ⟨p.blk, p.base + (off + i) * sz + 0, none⟩)) :=
              .eptr _ _ _ _ hu ⟨_, rfl⟩ fun sz' es' hh => by rw [hxb] at hh; cases hh; exact ⟨by omega, p, hp, rfl⟩
            obtain ⟨blk, o, he, g, hc, hg⟩ := Behind.at hW (Behind.row (i := off + i) (off := 0) hxb) hrel
            simp only [Value.pointer.injEq, Option.some.injEq, Addr.mk.injEq] at he
            obtain ⟨rfl, ho, _⟩ := he
            have hlen := hsz _ (getD_mem .any (show off + i < es.length by omega))
            refine ⟨g, fun j hj => ?_, fun j hj => hg j (by omega)⟩
            rw [show p.base + off * sz + i * sz + j = o + j by rw [Nat.add_mul] at ho; omega]
            exact hc j (by omega)
          let G : Nat → Nat → Value := fun i j => (x.w.cell? ⟨p.blk, p.base + off * sz + i * sz + j, none⟩).getD default
          have hG : ∀ i j, i < es0.length → j < sz → x.w.cell? ⟨p.blk, p.base + off * sz + i * sz + j, none⟩ = some (G i j) ∧ Rel x ((es.getD (off + i) .any).cells.getD j .any) (G i j) := fun i j hi hj => by
            obtain ⟨g, h1, h2⟩ := elem i hi
            have e : G i j = g j := by simp only [G, h1 j hj, Option.getD_some]
            exact ⟨by rw [e]; exact h1 j hj, by rw [e]; exact h2 j hj⟩
          refine .sl sz es0 A cap G hcap hsz0 (fun _ => ⟨p.blk, p.base + off * sz, hAp, hf.objs b _ p hxb hp, fun i j hi hj => by rw [hf.w]; exact (hG i j hi hj).1⟩) fun i j hi hj => ?_
          have hlen := hsz _ (getD_mem .any (show off + i < es.length by omega))
          -- by the element's own freezing
          have hfe := h i hi
          have hre : ∀ j, j < sz → Rel y ((es0.getD i .any).cells.getD j .any) (G i j) := by
            have ihi := @ih i hi
            -- the element as one value
            by_cases hagg : ∃ cs, es.getD (off + i) .any = .agg cs
            · obtain ⟨cs, hcs⟩ := hagg
              have hlc : cs.length = sz := by rw [hcs] at hlen; simpa [AV.cells] using hlen
              have hv : Rel x (es.getD (off + i) .any) (.agg ((List.range sz).map (G i)).toArray) := by
                rw [hcs]
                refine .agg _ _ (by simp [hlc]) fun j hj => ?_
                have hj' : j < sz := by omega
                have := (hG i j hi hj').2
                rw [hcs] at this
                simpa [AV.cells, hj'] using this
              have hy := ihi hv
              intro j hj
              generalize es0.getD i .any = e0 at hy hfe ⊢
              rw [hcs] at hfe
              cases hfe with
              | same _ =>
                generalize hq : AV.agg cs = q at hy
                cases hy with
                | agg cs' vs hs hr' => cases hq; simpa [AV.cells, hj] using hr' j (by omega)
                | _ => cases hq
              | @agg _ cs0 hl' _ =>
                generalize hq : AV.agg cs0 = q at hy
                cases hy with
                | agg cs' vs hs hr' => cases hq; simpa [AV.cells, hj] using hr' j (by omega)
                | _ => cases hq
            · have hc1 : (es.getD (off + i) .any).cells = [es.getD (off + i) .any] := by
                generalize es.getD (off + i) .any = e at hagg
                cases e <;> first | rfl | exact absurd ⟨_, rfl⟩ hagg
              have hs1 : sz = 1 := by rw [hc1] at hlen; simpa using hlen.symm
              intro j hj
              obtain rfl : j = 0 := by omega
              have hx := (hG i 0 hi hj).2
              rw [hc1] at hx
              have hy := ihi (by simpa using hx)
              generalize es0.getD i .any = e0 at hy hfe ⊢
              have hc0 : e0.cells = [e0] := by
                have := hfe.nagg fun cs h => hagg ⟨cs, h⟩
                cases e0 <;> first | rfl | exact absurd rfl (this _)
              rw [hc0]; simpa using hy
          exact hre j hj
    | _ => cases hq

mutual
/-- Nothing in it points anywhere. -/
def AV.plain : AV → Bool
  | .any | .bool _ | .int _ _ | .str _ | .nilp | .nils | .nilm | .nilf | .raw _ => true
  | .fn _ first cap => AV.plainL first && AV.plainL cap
  | .agg cs => AV.plainL cs
  | .tup cs => AV.plainL cs
  | _ => false
def AV.plainL : List AV → Bool
  | [] => true
  | a :: l => a.plain && AV.plainL l
end

theorem AV.plainL_mem : ∀ {l : List AV}, AV.plainL l = true → ∀ a ∈ l, a.plain = true
  | [], _, a, h => by cases h
  | b :: l, hp, a, h => by
    simp only [AV.plainL, Bool.and_eq_true] at hp
    rcases List.mem_cons.1 h with rfl | h
    · exact hp.1
    · exact AV.plainL_mem hp.2 a h

theorem Rel.plain {x y : Ctx} {a : AV} {v : Value} (h : Rel x a v) (hp : a.plain = true) : Rel y a v := by
  induction h with
  | any v => exact .any v
  | bool b => exact .bool b
  | int k n => exact .int k n
  | str s => exact .str s
  | nilp => exact .nilp
  | nils => exact .nils
  | nilm => exact .nilm
  | nilf => exact .nilf
  | raw v => exact .raw v
  | fn f first cap fv cv hf hc rf rc ihf ihc =>
    simp only [AV.plain, Bool.and_eq_true] at hp
    exact .fn f first cap fv cv hf hc (fun j hj => ihf j hj (AV.plainL_mem hp.1 _ (getD_mem _ hj))) fun j hj => ihc j hj (AV.plainL_mem hp.2 _ (getD_mem _ hj))
  | agg cs vs hs hr ih => exact .agg cs vs hs fun j hj => ih j hj (AV.plainL_mem (by simpa [AV.plain] using hp) _ (getD_mem _ hj))
  | tup cs vs hs hr ih => exact .tup cs vs hs fun j hj => ih j hj (AV.plainL_mem (by simpa [AV.plain] using hp) _ (getD_mem _ hj))
  | _ => simp [AV.plain] at hp

theorem AV.free_cells : CellsQ AV.free := fun a h c hc => AV.cells_refsIn h c hc
theorem AV.plain_cells : CellsQ (fun a => a.plain = true) := fun a h c hc => by
  cases a <;> simp only [AV.cells, List.mem_singleton] at hc <;> first
    | (subst hc; exact h)
    | (simp only [AV.plain] at h; exact AV.plainL_mem h c hc)

/-- A PURE FUNCTION's CONTRACT OVER VALUES THAT DO NOT TURN SERVES IN EVERY HEAP. -/
theorem CallOk.lift {E : Env} {fv : AV} {as as0 : List AV} {r r0 : AV} {H0 H : Heap} {n0 n : Nat} (hc : CallOk E fv as0 (fun _ => none) 0 r H0 n0) (hfv : fv.free) (hG : ∀ g, (E.G g).free) (hr : Frz (fun a => a.plain = true) H0 r r0)
    (hl : as0.length = as.length) (hz : ∀ j, j < as.length → Frz AV.free H (as.getD j .any) (as0.getD j .any)) (hf : Fresh H n) : CallOk E fv as H n r0 H n := by
  refine ⟨Nat.le_refl _, hf, fun b h h' => absurd h h', fun x hW hGx hA _ f vs hrf hra => ?_⟩
  let own : Nat → Prop := fun i => ∃ b o p, x.H b = some o ∧ x.ι b = some p ∧ p.blk = i
  let y : Ctx := { ι := fun _ => none, H := fun _ => none, used := fun _ => False, Z := fun i => x.Z i ∨ own i, V := fun i => x.V i ∨ own i, w := x.w }
  have hZ : ∀ i, x.ZV i → y.ZV i := fun i hi => ⟨.inl hi.1, .inl hi.2⟩
  have hfz : Froze AV.free x y := ⟨rfl, fun a v ha hr => hr.free ha hZ rfl, fun b o p h1 h2 => ⟨.inr ⟨b, o, p, h1, h2, rfl⟩, .inr ⟨b, o, p, h1, h2, rfl⟩⟩⟩
  have hzy : ∀ i, y.Z i → i < y.w.heap.size := fun i hi => by
    rcases hi with hi | ⟨b, o, p, h1, h2, rfl⟩
    · exact hW.zlt i hi
    · exact ((hW.live b o h1).2.blk_lt h2).1
  have hvy : ∀ i, y.V i → i < y.w.heap.size := fun i hi => by
    rcases hi with hi | ⟨b, o, p, h1, h2, rfl⟩
    · exact hW.vlt i hi
    · exact ((hW.live b o h1).2.blk_lt h2).1
  have hWy : RelW y := ⟨fun b o h => (by cases h), fun b b' p p' o o' h => (by cases h), hzy, ⟨0, fun b h => h.elim⟩, hvy⟩
  have hinv := hc.2.2.2 y hWy (fun g => (hGx g).free (hG g) hZ rfl) ⟨fun b _ h => h.elim, fun b o _ h => h.elim⟩ (fun b _ _ h => h) f vs (hrf.free hfv hZ rfl)
    ⟨by rw [hl]; exact hra.1, fun j hj => (hz j (by omega)).rel AV.free_cells hW hA hfz (hra.2 j (by omega))⟩
  refine hinv.mono fun v w' ⟨y', hw', k1, k2, k3, k4, k5⟩ => ?_
  subst hw'
  have hH0 : y'.H = H0 := by
    rw [k3]; funext b
    show patch (fun _ => none) (fun _ => none) H0 b = H0 b
    by_cases h : H0 b = none
    · rw [patch_keep h, h]
    · rw [patch_chg h]
  -- what the call made may be pointed into, and is kept
  let made : Nat → Prop := fun i => ∃ b o p, y'.H b = some o ∧ y'.ι b = some p ∧ p.blk = i
  have hmade : ∀ i, made i → ¬ y'.Z i ∧ i < y'.w.heap.size := fun i ⟨b, o, p, h1, h2, h3⟩ => by
    have := (k1.live b o h1).2.blk_lt h2
    rw [h3] at this; exact ⟨this.2, this.1⟩
  have hyZ : ∀ i, x.Z i ∨ own i → ¬ made i := fun i hi hm => (hmade i hm).1 (k2.Z i hi)
  let x' : Ctx := { x with Z := fun i => x.Z i ∨ made i, V := fun i => x.V i ∨ made i, w := y'.w }
  have hE : Ext x x' := ⟨fun _ h => h, fun _ h => .inl h, fun i hi => k2.keep i (.inl hi), fun b o _ h => ⟨o, h, o.like_refl, rfl⟩, k2.world, fun _ h => .inl h, fun i hi hv => hv.resolve_right (hyZ i (.inl hi))⟩
  have hWx : RelW x' := by
    refine ⟨fun b o h => ⟨(hW.live b o h).1, (hW.live b o h).2.ext hE rfl fun p hp hz _ => ⟨k2.keep _ (.inr ⟨b, o, p, h, hp, rfl⟩), fun hh => ?_⟩⟩, hW.inj, fun i hi => ?_, hW.bound, fun i hi => ?_⟩
    · rcases hh with hh | hh
      · exact hz hh
      · exact hyZ _ (.inr ⟨b, o, p, h, hp, rfl⟩) hh
    · rcases hi with hi | hi
      · exact Nat.lt_of_lt_of_le (hW.zlt i hi) k2.world.size
      · exact (hmade i hi).2
    · rcases hi with hi | hi
      · exact Nat.lt_of_lt_of_le (hW.vlt i hi) k2.world.size
      · exact (hmade i hi).2
  have hrel : Rel x' r0 v := hr.rel AV.plain_cells (x := y') (y := x') k1 ⟨fun b _ _ _ => by rw [hH0], fun b o _ _ ho => ⟨o, by rw [hH0]; exact ho, o.like_refl⟩⟩
    ⟨rfl, fun a v ha hr => hr.plain ha, fun b o p h1 h2 => ⟨.inr ⟨b, o, p, h1, h2, rfl⟩, .inr ⟨b, o, p, h1, h2, rfl⟩⟩⟩ k4
  exact ⟨x', rfl, hWx, hE, (patch_self _ _).symm, hrel, fun b h => .inl h⟩

end Go.Abs

namespace Go.Abs
open Go Go.RowKit

/-- The world as it lies before a run: nothing of the run's own; all that is there is kept. -/
def Ctx.start (w : World) : Ctx := { ι := fun _ => none, H := fun _ => none, used := fun _ => False, Z := fun i => i < w.heap.size, V := fun i => i < w.heap.size, w := w }

theorem RelW.start (w : World) : RelW (Ctx.start w) := ⟨fun b o h => (by cases h), fun b b' p p' o o' h => (by cases h), fun i hi => hi, ⟨0, fun b h => h.elim⟩, fun i hi => hi⟩

theorem grown_of_ext {w : World} {x' : Ctx} (e : Ext (Ctx.start w) x') : Grown w x'.w := by
  refine ⟨⟨e.world.os, e.world.output, fun i hi => ?_⟩, e.world.frozen, e.world.size⟩
  have hk : x'.w.heap[i]? = w.heap[i]? := e.keep i hi
  rw [hk]
  cases h : w.heap[i]? with
  | none => simp
  | some o => cases o <;> simp

/-- A LAW WITHOUT ARGUMENTS, out of a call's contract. -/
theorem walk_of_call {E : Env} {f : FuncId} {fn : Func} {c : Code} {H' : Heap} {n' : Nat} (hf : E.P.funcs[f]? = some fn) (hb : fn.body = some c) (hname : (fn.name == "runtime.NumGoroutine") = false)
    (hc : CallOk E (.fn (.func f) [] []) [] (fun _ => none) 0 (.bool true) H' n') (w : World) (hG : GOk E (Ctx.start w)) :
    Calls E.P f #[] w fun e w' => e = .returned (.bool true) ∧ Grown w w' := by
  have hinv := hc.2.2.2 (Ctx.start w) (RelW.start w) hG ⟨fun b _ h => h.elim, fun b o _ h => h.elim⟩ (fun b _ _ h => h) (.func (.func f) #[] #[]) #[]
    (.fn _ _ _ _ _ rfl rfl (fun j hj => by simp at hj) (fun j hj => by simp at hj)) ⟨rfl, fun j hj => by simp at hj⟩
  unfold InvIn at hinv
  have hrun : ((do let d ← Deferred.ofValue (.func (.func f) #[] #[]) #[]; invoke d.target d.args) : Sem Next).run E.P (Ctx.start w).w = .ok (.enter f #[]) w := by
    simp only [Deferred.ofValue, Sem.run_bind, Sem.run_pure, Result.andThen_ok, invoke]
    exact run_callFunc_body hf hb hname _ _
  rw [hrun] at hinv
  have h2 : CallsIn Fence.wide 0 E.P f #[] w fun e w' => e = .returned (.bool true) ∧ Grown w w' := CallsIn.mono hinv fun e w' ⟨v, he, x', hw, k1, k2, k3, k4, k5⟩ => by
    subst he; subst hw
    generalize hq : AV.bool true = q at k4
    cases k4 <;> cases hq
    exact ⟨rfl, grown_of_ext k2⟩
  exact h2.calls room_wide

end Go.Abs

namespace Go.Abs
open Go Go.RowKit

section
variable {H : Type} {enc : TypeId × Value → H} {P : Program} {w : World} {base : Nat} {spare : Nat → Bool} {held : Bool} {fuel : Nat}

/-- The cells of a struct of a string and two integers, out of its reading. -/
theorem elem3 {e : TypeId} {f0 f1 f2 : Field} {seg : List Value} {bs : List UInt8} {a b : Int} {p : List MemPlace} (he : P.underlying e = some (.struct #[f0, f1, f2])) (hc : P.cellsOf e = 3)
    (o0 : f0.offset = 0) (o1 : f1.offset = 1) (o2 : f2.offset = 2) (c0 : P.cellsOf f0.type = 1) (c1 : P.cellsOf f1.type = 1) (c2 : P.cellsOf f2.type = 1)
    (u0 : P.underlying f0.type = some .string) (u1 : P.underlying f1.type = some (.int .i64)) (u2 : P.underlying f2.type = some (.int .i64))
    (h : DataW.trod enc P w base spare held fuel e seg = some (.agg [.lit (.string bs), .lit (.int .i64 a), .lit (.int .i64 b)], p)) : seg = [.string ⟨bs.toArray⟩, .int .i64 a, .int .i64 b] := by
  obtain ⟨xs, n, _, hx, hlen, hxl, hf⟩ := DataW.trod_struct he h
  have hx1 : [.lit (.string bs), .lit (.int .i64 a), .lit (.int .i64 b)] = xs.map (·.1) := by
    have := (Prod.mk.inj hx).1
    simpa using this
  rw [hc] at hlen
  obtain ⟨s0, s1, s2, rfl⟩ : ∃ s0 s1 s2, seg = [s0, s1, s2] := by
    match seg, hlen with
    | [s0, s1, s2], _ => exact ⟨s0, s1, s2, rfl⟩
  obtain ⟨x0, x1, x2, rfl⟩ : ∃ x0 x1 x2, xs = [x0, x1, x2] := by
    match xs, hxl with
    | [x0, x1, x2], _ => exact ⟨x0, x1, x2, rfl⟩
  have h0 := hf 0 f0 rfl
  have h1 := hf 1 f1 rfl
  have h2 := hf 2 f2 rfl
  rw [o0, c0] at h0; rw [o1, c1] at h1; rw [o2, c2] at h2
  obtain ⟨s, e0, e0', _⟩ := DataW.trod_string u0 h0
  obtain ⟨m1, e1, e1', _⟩ := DataW.trod_int u1 h1
  obtain ⟨m2, e2, e2', _⟩ := DataW.trod_int u2 h2
  simp at e0 e1 e2
  subst e0 e1 e2 e0' e1' e2'
  simp at hx1
  obtain ⟨rfl, rfl, rfl⟩ := hx1
  rfl
end

end Go.Abs
