/- What is proved here serves the claim's last text: the operations, resolved, and that each does what its resolved form says. It speaks of any program of the model. -/
import Derived.Test.YtajbdbjkpglgfaaGreatDoorA1
import Derived.OrdersIn
set_option linter.unusedSimpArgs false
set_option linter.unusedVariables false
namespace Go.Abs
open Go

/-! ### Operations, resolved: sizes and places are looked up once -/
inductive ROp where
  | mov (x : Operand)
  | pick (c a b : Operand)
  | zero (v : AV)
  | box (x : Operand)
  | build (zs : List AV) (ps : List (Nat × Nat × Operand))
  | bslice (sz : Nat) (xs : List Operand)
  | load (agg : Bool) (n : Nat) (p : Operand)
  | store (n : Nat) (p v : Operand)
  | nilc (x : Operand)
  | bin (d : TypeDesc) (op : BinOp) (x y : Operand)
  | un (op : UnOp) (x : Operand)
  | convI (k : IntKind) (x : Operand)
  | convS (x : Operand)
  | convB (x : Operand)
  | isnil (x : Operand)
  | eqA (neg : Bool) (c : Nat) (x y : Operand)
  | capN (x : Operand)
  | mkfn (f : Fn) (first cap : List Operand)
  | mkmap
  | mksl (sz bytes : Nat) (z : AV) (l c : Operand)
  | cut (sz : Nat) (x : Operand) (lo hi : Option Operand)
  | cutS (x : Operand) (lo hi : Option Operand)
  | faddr (off : Nat) (x : Operand)
  | fld (agg : Bool) (off n : Nat) (x : Operand)
  | iaddr (sz : Nat) (x i : Operand)
  | iaddrA (len sz : Nat) (x i : Operand)
  | idx (agg : Bool) (len sz : Nat) (x i : Operand)
  | idxS (x i : Operand)
  | look (d : TypeDesc) (z : AV) (ok : Bool) (m k : Operand)
  | mapup (d : TypeDesc) (m k v : Operand)
  | ext (x : Operand) (i : Nat)
  | len (x : Operand)
  | lenS (x : Operand)
  | lenM (m : Operand)
  | app (sz bytes : Nat) (s x : Operand)
  | appZ (sz bytes : Nat) (z : AV) (s x : Operand)
  | min2 (x y : Operand)
  | max2 (x y : Operand)
  | clr (m : Operand)
  | mkmapN (r : Operand)
  | del (d : TypeDesc) (m k : Operand)
  | rng (m : Operand)
  | nxt (it : Operand)
  | ent (it : Operand)
  | asl (n sz : Nat) (x : Operand)
  | cpV (sz : Nat) (dv s : Operand)
  | call (f : Operand) (args : List Operand)
  deriving Inhabited

def buildPart (P : Program) (fs : Array Field) (m : Nat) (q : Nat × Operand) : Option (Nat × Nat × Operand) :=
  match fs[q.1]? with
  | some f => match P.info? f.type with
    | some i => if f.offset + i.size ≤ m then some (f.offset, i.size, q.2) else none
    | none => none
  | none => none

def resolveCall (P : Program) (c : Call) : Option ROp :=
  match c.callee, c.args.toList with
  | .value f, args => some (.call f args)
  | .builtin .len, [x] =>
    match (c.argTypes[0]?).bind P.underlying with
    | some (.slice _) => some (.len x)
    | some .string => some (.lenS x)
    | some (.map _ _) => some (.lenM x)
    | _ => none
  | .builtin .cap, [x] =>
    match (c.argTypes[0]?).bind P.underlying with
    | some (.slice _) => some (.capN x)
    | _ => none
  | .builtin .append, [s, x] =>
    match (c.argTypes[0]?).bind P.underlying, (c.argTypes[1]?).bind P.underlying with
    | some (.slice e), some (.slice _) => match P.info? e with
      | some i => match i.zero with
        | some z => if z.cells.size = i.size ∧ c.argTypes.size = 2 then some (.app i.size i.bytes s x) else none
        | none => none
      | none => none
    | some (.slice e), some (.int _) => match P.info? e with
      | some i => match i.zero with
        | some z => if ((AV.ofConst z).flat = true ∧ (AV.ofConst z).cells.length = i.size ∧ 0 < i.size) ∧ c.argTypes.size = 2 then some (.appZ i.size i.bytes (AV.ofConst z) s x) else none
        | none => none
      | none => none
    | _, _ => none
  | .builtin .min, [x, y] => some (.min2 x y)
  | .builtin .max, [x, y] => some (.max2 x y)
  | .builtin .clear, [m] =>
    match (c.argTypes[0]?).bind P.underlying with
    | some (.map _ _) => if c.argTypes.size = 1 then some (.clr m) else none
    | _ => none
  | .builtin .delete, [m, k] =>
    match (c.argTypes[0]?).bind P.underlying with
    | some (.map kt _) => match P.underlying kt with
      | some d => if keyD d = true ∧ c.argTypes.size = 2 then some (.del d m k) else none
      | none => none
    | _ => none
  | .builtin .copy, [dv, s] =>
    match (c.argTypes[0]?).bind P.underlying with
    | some (.slice e) => match P.info? e with
      | some i => if c.argTypes.size = 2 then some (.cpV i.size dv s) else none
      | none => none
    | _ => none
  | _, _ => none

def resolveOp (P : Program) : Op → Option ROp
  | .move x => some (.mov x)
  | .assign x => some (.mov x)
  | .pick c a b => some (.pick c a b)
  | .alloc t => match P.info? t with
    | some i => match i.zero with
      | some z => if (AV.ofConst z).flat then some (.zero (AV.ofConst z)) else none
      | none => none
    | none => none
  | .box _ x => some (.box x)
  | .build t ps => match P.info? t, P.underlying t with
    | some i, some (.struct fs) => match i.zero with
      | some z => match AV.ofConst z with
        | .agg zs => if fs.all (fun f => (P.info? f.type).isSome) then (ps.toList.mapM (buildPart P fs zs.length)).map (.build zs) else none
        | _ => none
      | none => none
    | some i, some (.array _ e) => match i.zero with
      | some z => match AV.ofConst z with
        | .agg zs => match P.info? e with
          | some ei => if ps.toList.all (fun q => q.1 * ei.size + ei.size ≤ zs.length) then some (.build zs (ps.toList.map fun q => (q.1 * ei.size, ei.size, q.2))) else none
          | none => none
        | _ => none
      | none => none
    | _, _ => none
  | .buildSlice t len ps => match P.underlying t with
    | some (.slice e) => match P.info? e with
      | some i => match i.zero with
        | some z => if z.cells.size = i.size ∧ 0 < i.size ∧ len * i.size ≤ 16777216 ∧ ps.toList.map Prod.fst = List.range len then some (.bslice i.size (ps.toList.map Prod.snd)) else none
        | none => none
      | none => none
    | _ => none
  | .load t p => match P.underlying t, P.info? t with
    | some d, some i => if isAggD d = true ∨ i.size = 1 then some (.load (isAggD d) i.size p) else none
    | _, _ => none
  | .store t p v => match P.info? t with
    | some i => if 0 < i.size then some (.store i.size p v) else none
    | none => none
  | .nilCheck x => some (.nilc x)
  | .binOp op t x y _ => match P.underlying t, op, y with
    | some (.slice _), .eql, .const (.slice none 0 0) => some (.isnil x)
    | some d, op, y => if isAggD d = true then
        match flatT P 20 t with
        | some c => if (op = .eql ∨ op = .neq) ∧ P.eqGuardType P.depth t = false then some (.eqA (decide (op = .neq)) c x y) else none
        | none => none
      else some (.bin d op x y)
    | none, _, _ => none
  | .unOp op _ x => some (.un op x)
  | .convert s t x => match P.underlying s, P.underlying t with
    | some (.int _), some (.int k) => some (.convI k x)
    | some .string, some .string => some (.convS x)
    | some (.slice e), some .string => match P.underlying e with
      | some (.int .u8) => some (.convB x)
      | _ => none
    | _, _ => none
  | .makeFunc f first cap => some (.mkfn f first.toList cap.toList)
  | .makeMap _ none => some .mkmap
  | .makeMap t (some r) => match P.underlying t with
    | some (.map _ _) => some (.mkmapN r)
    | _ => none
  | .range t x => match P.underlying t with
    | some (.map _ _) => some (.rng x)
    | _ => none
  | .next it s => if s = false then some (.nxt it) else none
  | .entry it => some (.ent it)
  | .makeSlice t l c => match P.underlying t with
    | some (.slice e) => match P.info? e with
      | some i => match i.zero with
        | some z => if (AV.ofConst z).flat ∧ (AV.ofConst z).cells.length = i.size ∧ 0 < i.size then some (.mksl i.size i.bytes (AV.ofConst z) l c) else none
        | none => none
      | none => none
    | _ => none
  | .slice t x lo hi none => match P.underlying t with
    | some (.slice e) => match P.info? e with
      | some i => some (.cut i.size x lo hi)
      | none => none
    | some .string => some (.cutS x lo hi)
    | some (.array n e) => match P.info? e with
      | some i => if lo.isNone = true ∧ hi.isNone = true then some (.asl n i.size x) else none
      | none => none
    | _ => none
  | .fieldAddr t x f => match P.underlying t with
    | some (.struct fs) => match fs[f]? with
      | some fd => match P.info? fd.type with
        | some i => if i.size ≠ 0 then some (.faddr fd.offset x) else none
        | none => none
      | none => none
    | _ => none
  | .field t x f => match P.underlying t with
    | some (.struct fs) => match fs[f]? with
      | some fd => match P.underlying fd.type, P.info? fd.type with
        | some d, some i => if isAggD d = true ∨ i.size = 1 then some (.fld (isAggD d) fd.offset i.size x) else none
        | _, _ => none
      | none => none
    | _ => none
  | .indexAddr t x i => match P.underlying t with
    | some (.slice e) => match P.info? e with
      | some ei => if 0 < ei.size then some (.iaddr ei.size x i) else none
      | none => none
    | some (.array len e) => match P.info? e with
      | some ei => some (.iaddrA len ei.size x i)
      | none => none
    | _ => none
  | .index t x i => match P.underlying t with
    | some (.array len e) => match P.underlying e, P.info? e with
      | some d, some ei => if isAggD d = true ∨ ei.size = 1 then some (.idx (isAggD d) len ei.size x i) else none
      | _, _ => none
    | some .string => some (.idxS x i)
    | _ => none
  | .lookup t m k ok => match P.underlying t with
    | some (.map kt et) => match P.underlying kt, P.info? et with
      | some d, some i => match i.zero with
        | some z => if keyD d then some (.look d (AV.ofConst z) ok m k) else none
        | none => none
      | _, _ => none
    | _ => none
  | .mapUpdate t m k v | .insert t m k v => match P.underlying t with
    | some (.map kt _) => match P.underlying kt with
      | some d => if keyD d then some (.mapup d m k v) else none
      | none => none
    | _ => none
  | .extract x i => some (.ext x i)
  | .call c => resolveCall P c
  | _ => none

/-! ### Calls -/
/-- What is called is a function value: it comes to R. -/
def InvIn (P : Program) (fv : Value) (args : Array Value) (w : World) (R : Value → World → Prop) : Prop :=
  match ((do let d ← Deferred.ofValue fv args; invoke d.target d.args) : Sem Next).run P w with
  | .ok (.value v) w' => R v w'
  | .ok (.enter f as) w' => CallsIn Fence.wide 0 P f as w' (fun e w'' => ∃ v, e = .returned v ∧ R v w'')
  | .ok (.round l f tmps as body) w' => RoundIn Fence.wide 0 P l f tmps as body w' (fun e w'' => ∃ v, e = .returned v ∧ R v w'')
  | _ => False

theorem InvIn.mono {P : Program} {fv : Value} {args : Array Value} {w : World} {R R' : Value → World → Prop} (h : InvIn P fv args w R) (hr : ∀ v w', R v w' → R' v w') : InvIn P fv args w R' := by
  unfold InvIn at *
  split at h
  · exact hr _ _ h
  · exact h.mono fun e w' ⟨v, h1, h2⟩ => ⟨v, h1, hr _ _ h2⟩
  · exact h.mono fun e w' ⟨v, h1, h2⟩ => ⟨v, h1, hr _ _ h2⟩
  · exact h.elim

def Args (x : Ctx) (as : List AV) (vs : Array Value) : Prop := vs.size = as.length ∧ ∀ j, j < as.length → Rel x (as.getD j .any) (vs.getD j default)

def AObj.refsIn (S : Nat → Prop) : AObj → Prop
  | .var cs => ∀ c ∈ cs, c.refsIn S
  | .row _ es => ∀ c ∈ es, c.refsIn S
  | .map _ es => ∀ e ∈ es, e.1.refsIn S ∧ e.2.refsIn S
  | .raw _ => True
  | .loop ts _ _ _ _ _ => ∀ c ∈ ts, c.refsIn S
  | .iter _ _ => True

end Go.Abs

namespace Go.Abs
open Go

def fence (ro : Option Nat) : Fence := { Fence.wide with round := ro }

open Classical in
/-- What has turned between H and H', laid over X. -/
noncomputable def patch (X H H' : Heap) : Heap := fun b => if H' b = H b then X b else H' b

theorem patch_self (X H : Heap) : patch X H H = X := by funext b; simp [patch]

/-- The objects of C are known, and those of L are of the same make. -/
structure AgS (C L : Nat → Prop) (x : Ctx) (H : Heap) : Prop where
  cont : ∀ b, C b → x.used b → H b ≠ none → x.H b = H b
  like : ∀ b o, L b → x.used b → H b = some o → ∃ o', x.H b = some o' ∧ o.like o'

/-- a leads to the object b. -/
def AV.isRef (a : AV) (b : Nat) : Prop := match a with | .ptr b' _ | .eptr b' _ _ | .row b' _ _ | .map b' | .vsl b' _ _ _ => b' = b | .itr b' m => b' = b ∨ m = b | _ => False
def NewOk (x : Ctx) (H H' : Heap) : Prop := ∀ b, H b = none → H' b ≠ none → ¬ x.used b

theorem unused_none {x : Ctx} (hW : RelW x) {b : Nat} (h : ¬ x.used b) : x.H b = none := by
  cases hb : x.H b with
  | none => rfl
  | some o => exact absurd (hW.live b o hb).1 h

/-- One step of the abstract machine. -/
inductive Ls (E : Env) (ρ : Operand → AV) (H : Heap) : ROp → AV → Heap → Prop
  | mov {x : Operand} : Ls E ρ H (.mov x) (ρ x) H
  | pick {c a b : Operand} {t : Bool} (h : ρ c = .bool t) : Ls E ρ H (.pick c a b) (if t then ρ a else ρ b) H
  | zero {v : AV} {b : Nat} (hb : H b = none) : Ls E ρ H (.zero v) (.ptr b 0) (H.upd b (.var v.cells))
  | box {x : Operand} {b : Nat} (hb : H b = none) (hf : (ρ x).flat = true) : Ls E ρ H (.box x) (.ptr b 0) (H.upd b (.var (ρ x).cells))
  | build {zs : List AV} {ps : List (Nat × Nat × Operand)} (h : ∀ q ∈ ps, (ρ q.2.2).flat = true ∧ (ρ q.2.2).cells.length = q.2.1) :
      Ls E ρ H (.build zs ps) (.agg (fillAV zs (ps.map fun q => (q.1, (ρ q.2.2).cells)))) H
  | bslice {sz : Nat} {xs : List Operand} {b : Nat} (hb : H b = none) (h : ∀ o ∈ xs, (ρ o).flat = true ∧ (ρ o).cells.length = sz) :
      Ls E ρ H (.bslice sz xs) (.row b 0 xs.length) (H.upd b (.row sz (xs.map ρ)))
  | load {agg : Bool} {n off : Nat} {p : Operand} {cs : List AV} (hb : Behind H (ρ p) cs off) (hl : off + n ≤ cs.length) : Ls E ρ H (.load agg n p) (ld agg (seg cs off n)) H
  | storeV {n b off : Nat} {p v : Operand} {cs : List AV} (hp : ρ p = .ptr b off) (hb : H b = some (.var cs)) (hf : (ρ v).flat = true) (hc : (ρ v).cells.length = n) (hl : off + n ≤ cs.length) :
      Ls E ρ H (.store n p v) .any (H.upd b (.var (lay cs off (ρ v).cells)))
  | storeR {n b k off sz : Nat} {p v : Operand} {es : List AV} (hp : ρ p = .eptr b k off) (hb : H b = some (.row sz es)) (hf : (ρ v).flat = true) (hc : (ρ v).cells.length = n) (hl : off + n ≤ sz) :
      Ls E ρ H (.store n p v) .any (H.upd b (.row sz (es.set k ((es.getD k .any).lay off (ρ v).cells))))
  | nilcP {x : Operand} (h : (ρ x).lives H) : Ls E ρ H (.nilc x) (ρ x) H
  | nilcF {x : Operand} {f : FuncId} {first cap : List AV} (h : ρ x = .fn (.func f) first cap) : Ls E ρ H (.nilc x) (ρ x) H
  | bin {d : TypeDesc} {op : BinOp} {x y : Operand} (h : binOk d op (ρ x) (ρ y)) : Ls E ρ H (.bin d op x y) (binV op (ρ x) (ρ y)) H
  | un {op : UnOp} {x : Operand} (h : unOk op (ρ x)) : Ls E ρ H (.un op x) (unV op (ρ x)) H
  | convI {k k' : IntKind} {x : Operand} {n : Int} (h : ρ x = .int k' n) : Ls E ρ H (.convI k x) (.int k (k.wrap n)) H
  | convS {x : Operand} {s : ByteArray} (h : ρ x = .str s) : Ls E ρ H (.convS x) (ρ x) H
  | capN {x : Operand} (h : ρ x = .nils) : Ls E ρ H (.capN x) (.int .i64 0) H
  | isnilN {x : Operand} (h : ρ x = .nils) : Ls E ρ H (.isnil x) (.bool true) H
  | isnilL {x : Operand} {sz : Nat} {es : List AV} (h : ρ x = .sl sz es) (hne : 0 < es.length) : Ls E ρ H (.isnil x) (.bool false) H
  | isnilR {x : Operand} {b off n sz : Nat} {es : List AV} (h : ρ x = .row b off n) (hb : H b = some (.row sz es)) (hn : off < es.length) : Ls E ρ H (.isnil x) (.bool false) H
  | eqA {neg : Bool} {c : Nat} {x y : Operand} {cs ds : List AV} {q : Bool} (hx : ρ x = .agg cs) (hy : ρ y = .agg ds) (hl : cs.length = c) (hq : numsEq cs ds = some q) : Ls E ρ H (.eqA neg c x y) (.bool (if neg = true then !q else q)) H
  | convB {x : Operand} {es : List AV} (hc : Content H (ρ x) 1 es) (hb : es.all isByte = true) : Ls E ρ H (.convB x) (.str (bytesOf es)) H
  | mkfn {f : Fn} {first cap : List Operand} : Ls E ρ H (.mkfn f first cap) (.fn f (first.map ρ) (cap.map ρ)) H
  | mkmap {b : Nat} (hb : H b = none) : Ls E ρ H .mkmap (.map b) (H.upd b (.map true []))
  | mksl {sz bytes : Nat} {z : AV} {l c : Operand} {k k' : IntKind} {n m b : Nat} (hb : H b = none) (hl : ρ l = .int k (n : Int)) (hc : ρ c = .int k' (m : Int)) (hnm : n ≤ m) (hbytes : m * bytes ≤ 140737488355328) (hm : m ≤ 140737488355328) :
      Ls E ρ H (.mksl sz bytes z l c) (.row b 0 n) (H.upd b (.row sz (List.replicate m z)))
  | cut {sz : Nat} {x : Operand} {lo hi : Option Operand} {l h : Nat} (ho : CutOk H sz (ρ x) l h)
      (hlo : lo = none ∧ l = 0 ∨ ∃ o k, lo = some o ∧ ρ o = .int k (l : Int)) (hhi : hi = none ∧ h = (ρ x).slen ∨ ∃ o k, hi = some o ∧ ρ o = .int k (h : Int)) :
      Ls E ρ H (.cut sz x lo hi) (cutAV l h (ρ x)) H
  | cutS {x : Operand} {lo hi : Option Operand} {l h : Nat} {s : ByteArray} (hx : ρ x = .str s) (h1 : l ≤ h) (h2 : h ≤ s.size)
      (hlo : lo = none ∧ l = 0 ∨ ∃ o k, lo = some o ∧ ρ o = .int k (l : Int)) (hhi : hi = none ∧ h = s.size ∨ ∃ o k, hi = some o ∧ ρ o = .int k (h : Int)) :
      Ls E ρ H (.cutS x lo hi) (.str (s.extract l h)) H
  | faddr {off : Nat} {x : Operand} (h : (ρ x).lives H) : Ls E ρ H (.faddr off x) ((ρ x).addOff off) H
  | fld {agg : Bool} {off n : Nat} {x : Operand} {cs : List AV} (h : ρ x = .agg cs) (hl : off + n ≤ cs.length) : Ls E ρ H (.fld agg off n x) (ld agg (seg cs off n)) H
  | iaddr {sz n : Nat} {x i : Operand} {k : IntKind} (hi : ρ i = .int k (n : Int)) (ho : IdxOk H sz (ρ x) n) : Ls E ρ H (.iaddr sz x i) (idxAV H n (ρ x)) H
  | iaddrA {len sz n : Nat} {x i : Operand} {k : IntKind} (hi : ρ i = .int k (n : Int)) (hl : (ρ x).lives H) (ho : n < len) : Ls E ρ H (.iaddrA len sz x i) ((ρ x).addOff (n * sz)) H
  | idx {agg : Bool} {len sz n : Nat} {x i : Operand} {k : IntKind} {cs : List AV} (hi : ρ i = .int k (n : Int)) (h : ρ x = .agg cs) (ho : n < len) (hl : n * sz + sz ≤ cs.length) : Ls E ρ H (.idx agg len sz x i) (ld agg (seg cs (n * sz) sz)) H
  | idxS {n : Nat} {x i : Operand} {k : IntKind} {s : ByteArray} (hi : ρ i = .int k (n : Int)) (h : ρ x = .str s) (ho : n < s.size) : Ls E ρ H (.idxS x i) (.int .u8 ((s.data.toList.getD n 0).toNat : Int)) H
  | look {d : TypeDesc} {z : AV} {ok : Bool} {m k : Operand} {es : List (AV × AV)} (hm : MapAt H (ρ m) es) (hkf : keyFits d (ρ k) = true) (hks : ∀ e ∈ es, (keyEq (ρ k) e.1).isSome = true) :
      Ls E ρ H (.look d z ok m k) (lookV ok z (mget (ρ k) es)) H
  | mapup {d : TypeDesc} {m k v : Operand} {b : Nat} {fl : Bool} {es : List (AV × AV)} (hm : ρ m = .map b) (hb : H b = some (.map fl es)) (hkf : keyFits d (ρ k) = true) (hks : ∀ e ∈ es, (keyEq (ρ k) e.1).isSome = true) :
      Ls E ρ H (.mapup d m k v) .any (H.upd b (.map fl (mput (ρ k) (ρ v) es)))
  | ext {x : Operand} {i : Nat} {vs : List AV} (h : ρ x = .tup vs) (hi : i < vs.length) : Ls E ρ H (.ext x i) (vs.getD i .any) H
  | lenL {x : Operand} {es : List AV} {sz : Nat} (h : ρ x = .sl sz es) : Ls E ρ H (.len x) (.int .i64 es.length) H
  | lenR {x : Operand} {b off n sz : Nat} {es : List AV} (h : ρ x = .row b off n) (hb : H b = some (.row sz es)) : Ls E ρ H (.len x) (.int .i64 n) H
  | lenN {x : Operand} (h : ρ x = .nils) : Ls E ρ H (.len x) (.int .i64 0) H
  | lenS {x : Operand} {s : ByteArray} (h : ρ x = .str s) : Ls E ρ H (.lenS x) (.int .i64 s.size) H
  | lenM {m : Operand} {es : List (AV × AV)} (hm : MapAt H (ρ m) es) : Ls E ρ H (.lenM m) (.int .i64 es.length) H
  | app {sz bytes b' : Nat} {s x : Operand} {ss xs : List AV} {k : Option Nat} (hb : H b' = none) (hs : Base H (ρ s) sz ss k) (hx : Content H (ρ x) sz xs) (hf : ∀ e ∈ xs, e.flat = true)
      (hlen : (ss.length + xs.length) * bytes ≤ 140737488355328) (hlen' : ss.length + xs.length ≤ 140737488355328) :
      Ls E ρ H (.app sz bytes s x) (.row b' 0 (ss.length + xs.length)) ((H.delO k).upd b' (.row sz (ss ++ xs)))
  | appZ {sz bytes b' n : Nat} {z : AV} {s x : Operand} {k : IntKind} (hb : H b' = none) (hs : ρ s = .nils) (hx : ρ x = .int k (n : Int)) (hn : 0 < n) (hlen : n * bytes ≤ 140737488355328) (hlen' : n ≤ 140737488355328) :
      Ls E ρ H (.appZ sz bytes z s x) (.row b' 0 n) (H.upd b' (.row sz (List.replicate n z)))
  | min2 {x y : Operand} {k k' : IntKind} {n m : Int} (hx : ρ x = .int k n) (hy : ρ y = .int k' m) : Ls E ρ H (.min2 x y) (.int k (if m < n then m else n)) H
  | max2 {x y : Operand} {k k' : IntKind} {n m : Int} (hx : ρ x = .int k n) (hy : ρ y = .int k' m) : Ls E ρ H (.max2 x y) (.int k (if m > n then m else n)) H
  | clr {m : Operand} {b : Nat} {fl : Bool} {es : List (AV × AV)} (hm : ρ m = .map b) (hb : H b = some (.map fl es)) : Ls E ρ H (.clr m) (.tup []) (H.upd b (.map false []))

  | mkmapN {r : Operand} {k : IntKind} {n : Int} {b : Nat} (hb : H b = none) (hr : ρ r = .int k n) : Ls E ρ H (.mkmapN r) (.map b) (H.upd b (.map true []))
  | del {d : TypeDesc} {m k : Operand} {b : Nat} {fl : Bool} {es : List (AV × AV)} (hm : ρ m = .map b) (hb : H b = some (.map fl es)) (hkf : keyFits d (ρ k) = true) (hks : ∀ e ∈ es, (keyEq (ρ k) e.1).isSome = true) (hno : mget (ρ k) es = none) :
      Ls E ρ H (.del d m k) (.tup []) (H.upd b (.map fl es))
  | rng {m : Operand} {mb b : Nat} {es : List (AV × AV)} (hb : H b = none) (hm : ρ m = .map mb) (hmb : H mb = some (.map true es)) : Ls E ρ H (.rng m) (.itr b mb) (H.upd b (.iter es.length 0))
  | nxtO {it : Operand} {b m : Nat} {es : List (AV × AV)} (hi : ρ it = .itr b m) (hb : H b = some (.iter es.length es.length)) (hm : H m = some (.map true es)) : Ls E ρ H (.nxt it) (.tup [.bool false]) H
  | nxtS {it : Operand} {b m k : Nat} {es : List (AV × AV)} (hi : ρ it = .itr b m) (hk : es.length = k + 1) (hb : H b = some (.iter es.length k)) (hm : H m = some (.map true es)) :
      Ls E ρ H (.nxt it) (.tup [.bool true, (es.getD k (.any, .any)).1, (es.getD k (.any, .any)).2]) (H.upd b (.iter es.length (k + 1)))
  | ent {it : Operand} {b m j : Nat} {es : List (AV × AV)} (hi : ρ it = .itr b m) (hj : j < es.length) (hb : H b = some (.iter es.length (j + 1))) (hm : H m = some (.map true es)) :
      Ls E ρ H (.ent it) (.tup [(es.getD j (.any, .any)).1, (es.getD j (.any, .any)).2]) H
  | asl {n sz b off : Nat} {x : Operand} {cs : List AV} (hx : ρ x = .ptr b off) (hb : H b = some (.var cs)) (hl : off + n * sz ≤ cs.length) : Ls E ρ H (.asl n sz x) (.vsl b off n sz) H
  | cpV {sz b off n : Nat} {dv s : Operand} {cs es : List AV} (hd : ρ dv = .vsl b off n sz) (hb : H b = some (.var cs)) (hs : Content H (ρ s) sz es) (hf : ∀ e ∈ es, e.flat = true) (hn : es.length ≤ n) :
      Ls E ρ H (.cpV sz dv s) (.int .i64 es.length) (H.upd b (.var (lay cs off (es.flatMap AV.cells))))

/-- What an operation's soundness says. -/
def Good (E : Env) (ro : Option Nat) (o : Oper) (a : Act) (x : Ctx) (H : Heap) (r : AV) (H' : Heap) : Prop :=
  ∀ (K : Act → World → Prop) (Q : Exit → Act → World → Prop), (∀ v x', RelW x' → Ext x x' → Rel x' r v → x'.H = patch x.H H H' → (∀ b, x'.used b → x.used b ∨ (H b = none ∧ H' b ≠ none)) → K (a.put o.dst v) x'.w) →
    o.wpIn (fence ro) 0 E.P a x.w K Q

theorem Good.value {E : Env} {ro : Option Nat} {o : Oper} {a : Act} {x x' : Ctx} {H H' : Heap} {r : AV} {v : Value} (hd : ∀ c, o.op ≠ .defer c) (hr : (execOp a.eval o).run E.P x.w = .ok (.value v) x'.w)
    (hW : RelW x') (hE : Ext x x') (hv : Rel x' r v) (hH : x'.H = patch x.H H H') (hu : ∀ b, x'.used b → x.used b ∨ (H b = none ∧ H' b ≠ none)) : Good E ro o a x H r H' := by
  intro K Q h
  refine ⟨fun _ _ => trivial, ?_⟩
  rw [Oper.semAt_eq _ _ _ hd, hr]
  exact h v x' hW hE hv hH hu

theorem Good.skip {E : Env} {ro : Option Nat} {o : Oper} {a : Act} {x x' : Ctx} {H H' : Heap} {r : AV} (hd : ∀ c, o.op ≠ .defer c) (hr : (execOp a.eval o).run E.P x.w = .ok .skip x'.w)
    (hW : RelW x') (hE : Ext x x') (hv : Rel x' r undef) (hH : x'.H = patch x.H H H') (hu : ∀ b, x'.used b → x.used b ∨ (H b = none ∧ H' b ≠ none)) : Good E ro o a x H r H' := by
  intro K Q h
  refine ⟨fun _ _ => trivial, ?_⟩
  rw [Oper.semAt_eq _ _ _ hd, hr]
  exact h undef x' hW hE hv hH hu

theorem Good.quiet {E : Env} {ro : Option Nat} {o : Oper} {a : Act} {x : Ctx} {H : Heap} {r : AV} {v : Value} (hd : ∀ c, o.op ≠ .defer c) (hr : (execOp a.eval o).run E.P x.w = .ok (.value v) x.w)
    (hW : RelW x) (hv : Rel x r v) : Good E ro o a x H r H :=
  Good.value hd hr hW (Ext.refl x) hv (patch_self _ _).symm fun _ h => .inl h

/-! A thing known in the abstract heap is there in the world's. -/
section
variable {C L : Nat → Prop} {x : Ctx} {H : Heap}
theorem AgS.at (hA : AgS C L x H) {b : Nat} (hC : C b) (hu : x.used b) {o : AObj} (h : H b = some o) : x.H b = some o := (hA.cont b hC hu (by simp [h])).trans h

theorem AgS.behind (hA : AgS C L x H) {a : AV} (hC : ∀ b, a.isRef b → C b) {v : Value} (hr : Rel x a v) {cs : List AV} {off : Nat} (h : Behind H a cs off) : Behind x.H a cs off := by
  cases h with
  | var h => cases hr with | ptr b off v hu hv h' => exact .var (hA.at (hC _ rfl) hu h)
  | row h => cases hr with | eptr b i off v hu hv h' => exact .row (hA.at (hC _ rfl) hu h)
  | imm => exact .imm

theorem AgS.var (hA : AgS C L x H) {b : Nat} (hL : L b) (hu : x.used b) {cs : List AV} (h : H b = some (.var cs)) : ∃ cs', x.H b = some (.var cs') ∧ cs'.length = cs.length := by
  obtain ⟨o', h1, h2⟩ := hA.like b _ hL hu h
  cases o' <;> simp [AObj.like] at h2
  exact ⟨_, h1, h2.symm⟩
theorem AgS.row (hA : AgS C L x H) {b : Nat} (hL : L b) (hu : x.used b) {sz : Nat} {es : List AV} (h : H b = some (.row sz es)) : ∃ es', x.H b = some (.row sz es') ∧ es'.length = es.length := by
  obtain ⟨o', h1, h2⟩ := hA.like b _ hL hu h
  cases o' <;> simp [AObj.like] at h2
  obtain ⟨rfl, h2⟩ := h2
  exact ⟨_, h1, h2.symm⟩

theorem AgS.lives (hA : AgS C L x H) {a : AV} (hL : ∀ b, a.isRef b → L b) {v : Value} (hr : Rel x a v) (h : a.lives H) : a.lives x.H := by
  cases h with
  | ptr h => cases hr with | ptr b off v hu hv h' => obtain ⟨cs', h1, _⟩ := hA.var (hL _ rfl) hu h; exact .ptr h1
  | eptr h => cases hr with | eptr b i off v hu hv h' => obtain ⟨cs', h1, _⟩ := hA.row (hL _ rfl) hu h; exact .eptr h1
  | iptr => exact .iptr

theorem AgS.content (hA : AgS C L x H) {a : AV} (hC : ∀ b, a.isRef b → C b) {v : Value} (hr : Rel x a v) {sz : Nat} {es : List AV} (h : Content H a sz es) : Content x.H a sz es := by
  cases h with
  | sl => exact .sl
  | row h hl => cases hr with | row b off n v hu hv h' => exact .row (hA.at (hC _ rfl) hu h) hl
  | nils => exact .nils

theorem AgS.base (hA : AgS C L x H) {a : AV} (hC : ∀ b, a.isRef b → C b) {v : Value} (hr : Rel x a v) {sz : Nat} {es : List AV} {k : Option Nat} (h : Base H a sz es k) : Base x.H a sz es k := by
  cases h with
  | row h hl => cases hr with | row b off n v hu hv h' => exact .row (hA.at (hC _ rfl) hu h) hl
  | nils => exact .nils

theorem AgS.idx (hA : AgS C L x H) {a : AV} (hL : ∀ b, a.isRef b → L b) {v : Value} (hr : Rel x a v) {sz n : Nat} (h : IdxOk H sz a n) : IdxOk x.H sz a n := by
  cases h with
  | sl h => exact .sl h
  | row h hl => cases hr with | row b off n v hu hv h' => obtain ⟨es', h1, h2⟩ := hA.row (hL _ rfl) hu h; exact .row h1 hl

theorem AgS.cut (hA : AgS C L x H) {a : AV} (hL : ∀ b, a.isRef b → L b) {v : Value} (hr : Rel x a v) {sz l h : Nat} (ho : CutOk H sz a l h) : CutOk x.H sz a l h := by
  cases ho with
  | sl h1 h2 => exact .sl h1 h2
  | row h h1 h2 => cases hr with | row b off n v hu hv h' => obtain ⟨es', k1, k2⟩ := hA.row (hL _ rfl) hu h; exact .row k1 h1 (by omega)
  | nils => exact .nils

theorem AgS.map (hA : AgS C L x H) {a : AV} (hC : ∀ b, a.isRef b → C b) {v : Value} (hr : Rel x a v) {es : List (AV × AV)} (h : MapAt H a es) : MapAt x.H a es := by
  cases h with
  | map h => cases hr with | map b v hu hv h' => exact .map (hA.at (hC _ rfl) hu h)
  | nil => exact .nil
end

theorem patch_new {X H : Heap} {b : Nat} {o : AObj} (hb : H b = none) : patch X H (H.upd b o) = X.upd b o := by
  funext i
  by_cases h : i = b
  · subst h; simp [patch, Heap.upd, hb]
  · simp [patch, Heap.upd, h]

theorem patch_upd {X H : Heap} {b : Nat} {o : AObj} (hb : X b = H b) : patch X H (H.upd b o) = X.upd b o := by
  funext i
  by_cases h : i = b
  · subst h
    by_cases e : some o = H i
    · simp [patch, Heap.upd, e, hb]
    · simp [patch, Heap.upd, e]
  · simp [patch, Heap.upd, h]

end Go.Abs

namespace Go.Abs
open Go

/-- What is at hand at an operation. -/
structure Hand (E : Env) (x : Ctx) (a : Act) (ρ : Operand → AV) (H H' : Heap) (C L : Nat → Prop) : Prop where
  W : RelW x
  G : GOk E x
  ρ : ∀ o, Rel x (ρ o) (a.eval o)
  A : AgS C L x H
  N : NewOk x H H'

section
variable {C L : Nat → Prop} {E : Env} {ro : Option Nat} {o : Oper} {a : Act} {x : Ctx} {ρ : Operand → AV} {H H' : Heap} {r : AV} {rop : ROp}

theorem good_quiet_v (h : Hand E x a ρ H H C L) (hd : ∀ c, o.op ≠ .defer c) {s : Sem Value} (he : execOp a.eval o = (do pure (.value (← s)) : Sem Next)) (hs : ∃ v, s.run E.P x.w = .ok v x.w ∧ Rel x r v) : Good E ro o a x H r H := by
  obtain ⟨v, h1, h2⟩ := hs
  exact Good.quiet hd (by rw [he]; simp [h1]) h.W h2

theorem good_new {b : Nat} {ob : AObj} (h : Hand E x a ρ H (H.upd b ob) C L) (hb : H b = none) (hd : ∀ c, o.op ≠ .defer c) {s : Sem Value} (he : execOp a.eval o = (do pure (.value (← s)) : Sem Next))
    (hs : ¬ x.used b → ∃ u x', s.run E.P x.w = .ok u x'.w ∧ RelW x' ∧ Ext x x' ∧ Rel x' r u ∧ x'.H = x.H.upd b ob ∧ (∀ j, x'.used j ↔ x.used j ∨ j = b)) : Good E ro o a x H r (H.upd b ob) := by
  obtain ⟨u, x', h1, h2, h3, h4, h5, h6⟩ := hs (h.N b hb (by simp [Heap.upd]))
  refine Good.value hd (by rw [he]; simp [h1]) h2 h3 h4 (by rw [h5, patch_new hb]) fun j hj => ?_
  rcases (h6 j).1 hj with hj | rfl
  · exact .inl hj
  · exact .inr ⟨hb, by simp [Heap.upd]⟩

/-- A store. -/
theorem good_store {b : Nat} {ob ob' : AObj} (h : Hand E x a ρ H (H.upd b ob') C L) (hb : H b = some ob) (hu : x.used b) (hd : ∀ c, o.op ≠ .defer c) {s : Sem Unit} (he : execOp a.eval o = (do s; pure .skip : Sem Next))
    (hs : x.H b = some ob → ∃ w', s.run E.P x.w = .ok () w' ∧ RelW (x.put b ob' w') ∧ Ext x (x.put b ob' w'))
    (hCb : C b) : Good E ro o a x H .any (H.upd b ob') := by
  obtain ⟨w', h1, h2, h3⟩ := hs (h.A.at hCb hu hb)
  refine Good.skip (x' := x.put b ob' w') hd (by rw [he]; simp [h1, Ctx.put]) h2 h3 (.any _) ?_ fun j hj => .inl hj
  rw [patch_upd (by rw [hb]; exact h.A.at hCb hu hb)]; rfl

theorem op_move {y : Operand} (hop : o.op = .move y ∨ o.op = .assign y) (h : Hand E x a ρ H H C L) : Good E ro o a x H (ρ y) H := by
  refine Good.quiet (v := a.eval y) (fun c => by rcases hop with e | e <;> simp [e]) ?_ h.W (h.ρ y)
  rcases hop with e | e <;> simp [execOp, e]

theorem op_pick {c p q : Operand} {t : Bool} (hop : o.op = .pick c p q) (h : Hand E x a ρ H H C L) (hc : ρ c = .bool t) : Good E ro o a x H (if t then ρ p else ρ q) H := by
  have hr := h.ρ c
  rw [hc] at hr
  cases he : a.eval c <;> rw [he] at hr <;> cases hr
  refine Good.quiet (v := if t then a.eval p else a.eval q) (fun c => by simp [hop]) ?_ h.W ?_
  · simp [execOp, hop, he, asBool]
  · cases t
    · exact h.ρ q
    · exact h.ρ p

theorem op_zero {t : TypeId} {i : TypeInfo} {z : Value} {b : Nat} (hop : o.op = .alloc t) (hi : E.P.info? t = some i) (hz : i.zero = some z) (hf : (AV.ofConst z).flat = true) (hb : H b = none)
    (h : Hand E x a ρ H (H.upd b (.var (AV.ofConst z).cells)) C L) : Good E ro o a x H (.ptr b 0) (H.upd b (.var (AV.ofConst z).cells)) := by
  refine good_new h hb (fun c => by simp [hop]) (s := Instr.alloc t true (.tuple #[])) (by simp [execOp, hop]) fun hu => ?_
  obtain ⟨k1, k2, k3⟩ := box_sound h.W hu t (Rel.ofConst x z) hf
  refine ⟨_, _, ?_, k1, k2, k3, rfl, fun j => Iff.rfl⟩
  simp [Instr.alloc, run_zeroValue hi hz, newVar, newRow, Ctx.new]

theorem op_box {t : TypeId} {y : Operand} {b : Nat} (hop : o.op = .box t y) (hf : (ρ y).flat = true) (hb : H b = none) (h : Hand E x a ρ H (H.upd b (.var (ρ y).cells)) C L) :
    Good E ro o a x H (.ptr b 0) (H.upd b (.var (ρ y).cells)) := by
  refine good_new h hb (fun c => by simp [hop]) (s := Instr.box t (a.eval y)) (by simp [execOp, hop]) fun hu => ?_
  obtain ⟨k1, k2, k3⟩ := box_sound h.W hu t (h.ρ y) hf
  refine ⟨_, _, ?_, k1, k2, k3, rfl, fun j => Iff.rfl⟩
  simp [Instr.box, newVar, newRow, Ctx.new]

theorem op_load {t : TypeId} {d : TypeDesc} {i : TypeInfo} {y : Operand} {cs : List AV} {off : Nat} (hop : o.op = .load t y) (hU : E.P.underlying t = some d) (hI : E.P.info? t = some i) (h1 : isAggD d = true ∨ i.size = 1)
    (h : Hand E x a ρ H H C L) (hb : Behind H (ρ y) cs off) (hl : off + i.size ≤ cs.length)
    (hC_y : ∀ b, (ρ y).isRef b → C b) : Good E ro o a x H (ld (isAggD d) (seg cs off i.size)) H :=
  good_quiet_v h (fun c => by simp [hop]) (s := Instr.loadAt t (a.eval y)) (by simp [execOp, hop])
    (load_sound h.W hU rfl hI rfl (fun e => h1.resolve_left (by simp [e])) (h.ρ y) (h.A.behind (hC_y) (h.ρ y) hb) hl)

theorem op_storeV {t : TypeId} {i : TypeInfo} {p y : Operand} {b off : Nat} {cs : List AV} (hop : o.op = .store t p y) (hI : E.P.info? t = some i)
    (h : Hand E x a ρ H (H.upd b (.var (lay cs off (ρ y).cells))) C L) (hp : ρ p = .ptr b off) (hb : H b = some (.var cs)) (hf : (ρ y).flat = true) (hc : (ρ y).cells.length = i.size) (hl : off + i.size ≤ cs.length)
    (hC_p : ∀ b, (ρ p).isRef b → C b) :
    Good E ro o a x H .any (H.upd b (.var (lay cs off (ρ y).cells))) := by
  have hr := h.ρ p
  rw [hp] at hr
  have hu : x.used b := by cases hr; assumption
  exact good_store h hb hu (fun c => by simp [hop]) (s := Instr.storeAt t (a.eval p) (a.eval y)) (by simp [execOp, hop]) (fun hxb => store_var_sound h.W hI rfl hr hxb (h.ρ y) hf hc hl) (hC_p _ (by rw [hp]; exact rfl))

theorem op_storeR {t : TypeId} {i : TypeInfo} {p y : Operand} {b k off sz : Nat} {es : List AV} (hop : o.op = .store t p y) (hI : E.P.info? t = some i) (h0 : 0 < i.size)
    (h : Hand E x a ρ H (H.upd b (.row sz (es.set k ((es.getD k .any).lay off (ρ y).cells)))) C L) (hp : ρ p = .eptr b k off) (hb : H b = some (.row sz es)) (hf : (ρ y).flat = true) (hc : (ρ y).cells.length = i.size) (hl : off + i.size ≤ sz)
    (hC_p : ∀ b, (ρ p).isRef b → C b) :
    Good E ro o a x H .any (H.upd b (.row sz (es.set k ((es.getD k .any).lay off (ρ y).cells)))) := by
  have hr := h.ρ p
  rw [hp] at hr
  have hu : x.used b := by cases hr; assumption
  exact good_store h hb hu (fun c => by simp [hop]) (s := Instr.storeAt t (a.eval p) (a.eval y)) (by simp [execOp, hop]) (fun hxb => store_row_sound h.W hI rfl h0 hr hxb (h.ρ y) hf hc hl) (hC_p _ (by rw [hp]; exact rfl))

theorem op_nilcP {y : Operand} (hop : o.op = .nilCheck y) (h : Hand E x a ρ H H C L) (hl : (ρ y).lives H)
    (hL_y : ∀ b, (ρ y).isRef b → L b) : Good E ro o a x H (ρ y) H := by
  obtain ⟨_, blk, off, he⟩ := (h.A.lives (hL_y) (h.ρ y) hl).at (h.ρ y)
  refine Good.quiet (v := a.eval y) (fun c => by simp [hop]) ?_ h.W (h.ρ y)
  simp [execOp, hop, he]

theorem op_nilcF {y : Operand} {f : FuncId} {first cap : List AV} (hop : o.op = .nilCheck y) (h : Hand E x a ρ H H C L) (hy : ρ y = .fn (.func f) first cap) : Good E ro o a x H (ρ y) H := by
  have hr := h.ρ y
  rw [hy] at hr
  cases he : a.eval y <;> rw [he] at hr <;> cases hr
  refine Good.quiet (v := a.eval y) (fun c => by simp [hop]) ?_ h.W (h.ρ y)
  simp [execOp, hop, he]

theorem op_bin {t t' : TypeId} {d : TypeDesc} {op : BinOp} {y z : Operand} (hop : o.op = .binOp op t y z t') (hU : E.P.underlying t = some d) (h : Hand E x a ρ H H C L) (hb : binOk d op (ρ y) (ρ z)) : Good E ro o a x H (binV op (ρ y) (ρ z)) H :=
  good_quiet_v h (fun c => by simp [hop]) (s := do eqGuard op t y z (a.eval y) (a.eval z); binOp op t (a.eval y) (a.eval z)) (by simp [execOp, hop]) (bin_sound hU y z (h.ρ y) (h.ρ z) hb)

theorem op_un {t : TypeId} {op : UnOp} {y : Operand} (hop : o.op = .unOp op t y) (h : Hand E x a ρ H H C L) (hb : unOk op (ρ y)) : Good E ro o a x H (unV op (ρ y)) H :=
  good_quiet_v h (fun c => by simp [hop]) (s := Op.unary op (a.eval y)) (by simp [execOp, hop]) (un_sound (h.ρ y) hb)

theorem op_convI {s t : TypeId} {k0 k k' : IntKind} {n : Int} {y : Operand} (hop : o.op = .convert s t y) (hs : E.P.underlying s = some (.int k0)) (ht : E.P.underlying t = some (.int k)) (h : Hand E x a ρ H H C L) (hy : ρ y = .int k' n) : Good E ro o a x H (.int k (k.wrap n)) H :=
  good_quiet_v h (fun c => by simp [hop]) (s := convert s t (a.eval y)) (by simp [execOp, hop]) (conv_int_sound hs ht (hy ▸ h.ρ y))

theorem op_convS {s t : TypeId} {b : ByteArray} {y : Operand} (hop : o.op = .convert s t y) (hs : E.P.underlying s = some .string) (ht : E.P.underlying t = some .string) (h : Hand E x a ρ H H C L) (hy : ρ y = .str b) : Good E ro o a x H (ρ y) H := by
  rw [hy]
  exact good_quiet_v h (fun c => by simp [hop]) (s := convert s t (a.eval y)) (by simp [execOp, hop]) (conv_str_sound hs ht (hy ▸ h.ρ y))

theorem op_isnil {t t' e : TypeId} {y : Operand} {res : Bool} (hop : o.op = .binOp .eql t y (.const (.slice none 0 0)) t') (hU : E.P.underlying t = some (.slice e)) (h : Hand E x a ρ H H C L) (hs : ∃ A n c, a.eval y = .slice A n c ∧ A.isNone = res) : Good E ro o a x H (.bool res) H := by
  obtain ⟨A, n, c, hA, rfl⟩ := hs
  refine good_quiet_v h (fun c => by simp [hop]) (s := do eqGuard .eql t y (.const (.slice none 0 0)) (a.eval y) (a.eval (.const (.slice none 0 0))); binOp .eql t (a.eval y) (a.eval (.const (.slice none 0 0)))) (by simp [execOp, hop]) ⟨.bool A.isNone, ?_, .bool _⟩
  rw [hA]
  exact run_isnil hU _ _ A n c

theorem isnil_N {y : Operand} (h : Hand E x a ρ H H C L) (hy : ρ y = .nils) : ∃ A n c, a.eval y = .slice A n c ∧ A.isNone = true := by
  have hr := h.ρ y
  rw [hy] at hr
  generalize a.eval y = v at hr
  cases hr
  exact ⟨_, _, _, rfl, rfl⟩

theorem isnil_L {y : Operand} {sz : Nat} {es : List AV} (h : Hand E x a ρ H H C L) (hy : ρ y = .sl sz es) (hne : 0 < es.length) : ∃ A n c, a.eval y = .slice A n c ∧ A.isNone = false := by
  have hr := h.ρ y
  rw [hy] at hr
  generalize a.eval y = v at hr
  cases hr with
  | sl sz es A cap g hcap hsz hc hr' =>
    obtain ⟨blk, o, rfl, _⟩ := hc (by intro e; subst e; simp at hne)
    exact ⟨_, _, _, rfl, rfl⟩

theorem isnil_R {y : Operand} {b off n sz : Nat} {es : List AV} (h : Hand E x a ρ H H C L) (hy : ρ y = .row b off n) (hb : H b = some (.row sz es)) (hn : off < es.length) (hL_y : ∀ b, (ρ y).isRef b → L b) : ∃ A n c, a.eval y = .slice A n c ∧ A.isNone = false := by
  have hr := h.ρ y
  have hl := hL_y b (by rw [hy]; exact rfl)
  rw [hy] at hr
  generalize a.eval y = v at hr
  cases hr with
  | row b off n v hu hv h' =>
    obtain ⟨es', k1, k2⟩ := h.A.row hl hu hb
    obtain ⟨_, A, cap, rfl, _, k3, h5⟩ := h' _ _ k1
    rcases h5 with ⟨h5, _⟩ | ⟨p, hp, rfl, _⟩
    · omega
    · exact ⟨_, _, _, rfl, rfl⟩

theorem op_eqA {t t' : TypeId} {d : TypeDesc} {op : BinOp} {y z : Operand} {c : Nat} {cs ds : List AV} {q : Bool} (hop : o.op = .binOp op t y z t') (hU : E.P.underlying t = some d) (hd : isAggD d = true) (hf : flatT E.P 20 t = some c) (hm : E.P.eqGuardType E.P.depth t = false)
    (ho : op = .eql ∨ op = .neq) (h : Hand E x a ρ H H C L) (hy : ρ y = .agg cs) (hz : ρ z = .agg ds) (hl : cs.length = c) (hq : numsEq cs ds = some q) : Good E ro o a x H (.bool (if op = .neq then !q else q)) H :=
  good_quiet_v h (fun c => by simp [hop]) (s := do eqGuard op t y z (a.eval y) (a.eval z); binOp op t (a.eval y) (a.eval z)) (by simp [execOp, hop])
    (eqA_sound (m := 0) hU hd hf hm y z (hy ▸ h.ρ y) (hz ▸ h.ρ z) hl hq op ho)

theorem op_convB {s t e : TypeId} {y : Operand} {es : List AV} (hop : o.op = .convert s t y) (hs : E.P.underlying s = some (.slice e)) (he : E.P.underlying e = some (.int .u8)) (ht : E.P.underlying t = some .string) (h : Hand E x a ρ H H C L)
    (hc : Content H (ρ y) 1 es) (hb : es.all isByte = true) (hC_y : ∀ b, (ρ y).isRef b → C b) : Good E ro o a x H (.str (bytesOf es)) H :=
  good_quiet_v h (fun c => by simp [hop]) (s := convert s t (a.eval y)) (by simp [execOp, hop]) (convB_sound h.W hs he ht (h.ρ y) (h.A.content hC_y (h.ρ y) hc) hb)

theorem op_mkfn {f : Fn} {first cap : Array Operand} (hop : o.op = .makeFunc f first cap) (h : Hand E x a ρ H H C L) : Good E ro o a x H (.fn f (first.toList.map ρ) (cap.toList.map ρ)) H := by
  have hl : ∀ (l : Array Operand) (j : Nat), j < (l.toList.map ρ).length → Rel x ((l.toList.map ρ).getD j .any) ((l.map a.eval).getD j default) := fun l j hj => by
    have hj' : j < l.size := by simpa using hj
    have := h.ρ (l[j])
    simpa [List.getD_eq_getElem?_getD, Array.getD_eq_getD_getElem?, hj'] using this
  refine Good.quiet (v := .func f (first.map a.eval) (cap.map a.eval)) (fun c => by simp [hop]) (by simp [execOp, hop, Instr.makeFunc]) h.W ?_
  exact .fn _ _ _ _ _ (by simp) (by simp) (hl first) (hl cap)

theorem op_mkmap {t : TypeId} {b : Nat} (hop : o.op = .makeMap t none) (hb : H b = none) (h : Hand E x a ρ H (H.upd b (.map true [])) C L) : Good E ro o a x H (.map b) (H.upd b (.map true [])) :=
  good_new h hb (fun c => by simp [hop]) (s := Instr.makeMap t none) (by simp [execOp, hop]) fun hu => makeMap_sound h.W hu t

theorem op_faddr {t : TypeId} {f : Nat} {fs : Array Field} {fd : Field} {i : TypeInfo} {y : Operand} (hop : o.op = .fieldAddr t y f) (hU : E.P.underlying t = some (.struct fs)) (hf : fs[f]? = some fd) (hI : E.P.info? fd.type = some i) (hn : i.size ≠ 0)
    (h : Hand E x a ρ H H C L) (hl : (ρ y).lives H)
    (hL_y : ∀ b, (ρ y).isRef b → L b) : Good E ro o a x H ((ρ y).addOff fd.offset) H :=
  good_quiet_v h (fun c => by simp [hop]) (s := Instr.fieldAt t (a.eval y) f) (by simp [execOp, hop]) (fieldAddr_sound hU hf hI hn (h.ρ y) (h.A.lives (hL_y) (h.ρ y) hl))

theorem op_fld {t : TypeId} {f : Nat} {fs : Array Field} {fd : Field} {d : TypeDesc} {i : TypeInfo} {y : Operand} {cs : List AV} (hop : o.op = .field t y f) (hU : E.P.underlying t = some (.struct fs)) (hf : fs[f]? = some fd) (hd : E.P.underlying fd.type = some d) (hI : E.P.info? fd.type = some i) (h1 : isAggD d = true ∨ i.size = 1)
    (h : Hand E x a ρ H H C L) (hy : ρ y = .agg cs) (hl : fd.offset + i.size ≤ cs.length) : Good E ro o a x H (ld (isAggD d) (seg cs fd.offset i.size)) H :=
  good_quiet_v h (fun c => by simp [hop]) (s := Instr.field t (a.eval y) f) (by simp [execOp, hop]) (field_sound hU hf hd rfl hI rfl (fun e => h1.resolve_left (by simp [e])) (hy ▸ h.ρ y) hl)

theorem op_iaddr {t e : TypeId} {i : TypeInfo} {y z : Operand} {k : IntKind} {n : Nat} (hop : o.op = .indexAddr t y z) (hU : E.P.underlying t = some (.slice e)) (hI : E.P.info? e = some i) (h0 : 0 < i.size)
    (h : Hand E x a ρ H H C L) (hi : ρ z = .int k (n : Int)) (ho : IdxOk H i.size (ρ y) n)
    (hL_y : ∀ b, (ρ y).isRef b → L b) : Good E ro o a x H (idxAV H n (ρ y)) H := by
  have := iaddr_sound (P := E.P) h.W hU hI rfl h0 (h.ρ y) (h.A.idx (hL_y) (h.ρ y) ho) (hi ▸ h.ρ z)
  have e : idxAV x.H n (ρ y) = idxAV H n (ρ y) := by cases hy : ρ y <;> rfl
  rw [e] at this
  exact good_quiet_v h (fun c => by simp [hop]) (s := Instr.indexAt t (a.eval y) (a.eval z)) (by simp [execOp, hop]) this

theorem op_iaddrA {t e : TypeId} {i : TypeInfo} {y z : Operand} {k : IntKind} {len n : Nat} (hop : o.op = .indexAddr t y z) (hU : E.P.underlying t = some (.array len e)) (hI : E.P.info? e = some i)
    (h : Hand E x a ρ H H C L) (hi : ρ z = .int k (n : Int)) (hl : (ρ y).lives H) (ho : n < len)
    (hL_y : ∀ b, (ρ y).isRef b → L b) : Good E ro o a x H ((ρ y).addOff (n * i.size)) H :=
  good_quiet_v h (fun c => by simp [hop]) (s := Instr.indexAt t (a.eval y) (a.eval z)) (by simp [execOp, hop]) (iaddrA_sound hU hI rfl (h.ρ y) (h.A.lives (hL_y) (h.ρ y) hl) ho (hi ▸ h.ρ z))

theorem op_idx {t e : TypeId} {d : TypeDesc} {i : TypeInfo} {y z : Operand} {k : IntKind} {len n : Nat} {cs : List AV} (hop : o.op = .index t y z) (hU : E.P.underlying t = some (.array len e)) (hd : E.P.underlying e = some d) (hI : E.P.info? e = some i) (h1 : isAggD d = true ∨ i.size = 1)
    (h : Hand E x a ρ H H C L) (hi : ρ z = .int k (n : Int)) (hy : ρ y = .agg cs) (ho : n < len) (hl : n * i.size + i.size ≤ cs.length) : Good E ro o a x H (ld (isAggD d) (seg cs (n * i.size) i.size)) H :=
  good_quiet_v h (fun c => by simp [hop]) (s := Instr.index t (a.eval y) (a.eval z)) (by simp [execOp, hop]) (index_sound hU hd rfl hI rfl (fun e => h1.resolve_left (by simp [e])) (hy ▸ h.ρ y) ho hl (hi ▸ h.ρ z))

theorem op_idxS {t : TypeId} {y z : Operand} {k : IntKind} {n : Nat} {s : ByteArray} (hop : o.op = .index t y z) (hU : E.P.underlying t = some .string)
    (h : Hand E x a ρ H H C L) (hi : ρ z = .int k (n : Int)) (hy : ρ y = .str s) (ho : n < s.size) : Good E ro o a x H (.int .u8 ((s.data.toList.getD n 0).toNat : Int)) H :=
  good_quiet_v h (fun c => by simp [hop]) (s := Instr.index t (a.eval y) (a.eval z)) (by simp [execOp, hop]) (indexS_sound hU (hy ▸ h.ρ y) ho (hi ▸ h.ρ z))

theorem op_look {t kt et : TypeId} {d : TypeDesc} {i : TypeInfo} {z : Value} {m k : Operand} {ok : Bool} {es : List (AV × AV)} (hop : o.op = .lookup t m k ok) (hU : E.P.underlying t = some (.map kt et)) (hK : E.P.underlying kt = some d) (hkd : keyD d = true) (hE : E.P.info? et = some i) (hz : i.zero = some z)
    (h : Hand E x a ρ H H C L) (hm : MapAt H (ρ m) es) (hkf : keyFits d (ρ k) = true) (hks : ∀ e ∈ es, (keyEq (ρ k) e.1).isSome = true)
    (hC_m : ∀ b, (ρ m).isRef b → C b) : Good E ro o a x H (lookV ok (AV.ofConst z) (mget (ρ k) es)) H :=
  good_quiet_v h (fun c => by simp [hop]) (s := Instr.lookup t (a.eval m) (a.eval k) ok) (by simp [execOp, hop]) (lookup_sound h.W hU hK hkd hE hz (h.ρ m) (h.ρ k) (h.A.map (hC_m) (h.ρ m) hm) hkf hks ok)

theorem op_mapup {t kt et : TypeId} {d : TypeDesc} {m k v : Operand} {b : Nat} {fl : Bool} {es : List (AV × AV)} (hop : o.op = .mapUpdate t m k v ∨ o.op = .insert t m k v) (hU : E.P.underlying t = some (.map kt et)) (hK : E.P.underlying kt = some d) (hkd : keyD d = true)
    (h : Hand E x a ρ H (H.upd b (.map fl (mput (ρ k) (ρ v) es))) C L) (hm : ρ m = .map b) (hb : H b = some (.map fl es)) (hkf : keyFits d (ρ k) = true) (hks : ∀ e ∈ es, (keyEq (ρ k) e.1).isSome = true)
    (hC_m : ∀ b, (ρ m).isRef b → C b) :
    Good E ro o a x H .any (H.upd b (.map fl (mput (ρ k) (ρ v) es))) := by
  have hr := h.ρ m
  rw [hm] at hr
  have hu : x.used b := by cases hr; assumption
  exact good_store h hb hu (fun c => by rcases hop with e | e <;> simp [e]) (s := Instr.mapUpdate t (a.eval m) (a.eval k) (a.eval v)) (by rcases hop with e | e <;> simp [execOp, e])
    (fun hxb => mapUpdate_sound h.W hU hK hkd hr (h.ρ k) (h.ρ v) hxb hkf hks) (hC_m _ (by rw [hm]; exact rfl))

theorem op_ext {y : Operand} {i : Nat} {vs : List AV} (hop : o.op = .extract y i) (h : Hand E x a ρ H H C L) (hy : ρ y = .tup vs) (hi : i < vs.length) : Good E ro o a x H (vs.getD i .any) H :=
  good_quiet_v h (fun c => by simp [hop]) (s := Instr.extract (a.eval y) i) (by simp [execOp, hop]) (extract_sound (hy ▸ h.ρ y) hi)

end

end Go.Abs

namespace Go.Abs
open Go

section
variable {C L : Nat → Prop} {E : Env} {ro : Option Nat} {o : Oper} {a : Act} {x : Ctx} {ρ : Operand → AV} {H H' : Heap} {r : AV} {rop : ROp}

theorem exec_builtin {b : Builtin} {args : Array Operand} {ts : Array TypeId} {s : Sem Value} (hop : o.op = .call { callee := .builtin b, args, argTypes := ts })
    (hb : ∀ consts, builtin b ts o.type consts (args.map a.eval) = (do pure (.value (← s)) : Sem Next)) : execOp a.eval o = (do pure (.value (← s)) : Sem Next) := by
  simp [execOp, hop, resolve, invoke, hb]

theorem op_len {y : Operand} {ts : Array TypeId} {t : TypeId} {n : Nat} (hop : o.op = .call { callee := .builtin .len, args := #[y], argTypes := ts }) (ht : ts[0]? = some t) (h : Hand E x a ρ H H C L)
    (hr : (Builtin.len_ ts o.type #[a.eval y]).run E.P x.w = .ok (goInt n) x.w) : Good E ro o a x H (.int .i64 n) H :=
  good_quiet_v h (fun c => by simp [hop]) (s := Builtin.len_ ts o.type #[a.eval y]) (exec_builtin hop fun consts => by simp [builtin]) ⟨_, hr, .int _ _⟩

theorem op_lenSl {y : Operand} {ts : Array TypeId} {t e : TypeId} (hop : o.op = .call { callee := .builtin .len, args := #[y], argTypes := ts }) (ht : ts[0]? = some t) (hU : E.P.underlying t = some (.slice e)) (h : Hand E x a ρ H H C L)
    {n : Nat} (hy : (∃ sz es, ρ y = .sl sz es ∧ n = es.length) ∨ (∃ b off sz es, ρ y = .row b off n ∧ H b = some (.row sz es)) ∨ (ρ y = .nils ∧ n = 0))
    (hL_y : ∀ b, (ρ y).isRef b → L b) : Good E ro o a x H (.int .i64 n) H := by
  refine op_len hop ht h ?_
  have hs : ∃ A c, a.eval y = .slice A n c := by
    have hr := h.ρ y
    rcases hy with ⟨sz, es, hy, rfl⟩ | ⟨b, off, sz, es, hy, hb⟩ | ⟨hy, rfl⟩
    · rw [hy] at hr
      generalize a.eval y = v at hr
      cases hr; exact ⟨_, _, rfl⟩
    · rw [hy] at hr
      generalize a.eval y = v at hr
      cases hr with
      | row b off n v hu hv h' => obtain ⟨es', k1, _⟩ := h.A.row (hL_y _ (by rw [hy]; exact rfl)) hu hb; obtain ⟨_, A, c, rfl, _⟩ := h' _ _ k1; exact ⟨A, c, rfl⟩
    · rw [hy] at hr
      generalize a.eval y = v at hr
      cases hr; exact ⟨_, _, rfl⟩
  obtain ⟨A, c, hs⟩ := hs
  simp [Builtin.len_, ht, hs, run_under hU]

theorem op_capN {y : Operand} {ts : Array TypeId} {t e : TypeId} (hop : o.op = .call { callee := .builtin .cap, args := #[y], argTypes := ts }) (ht : ts[0]? = some t) (hU : E.P.underlying t = some (.slice e)) (h : Hand E x a ρ H H C L) (hy : ρ y = .nils) :
    Good E ro o a x H (.int .i64 0) H := by
  refine good_quiet_v h (fun c => by simp [hop]) (s := Builtin.cap_ ts o.type #[a.eval y]) (exec_builtin hop fun consts => by simp [builtin]) ⟨.int .i64 0, ?_, .int _ _⟩
  have hr := h.ρ y
  rw [hy] at hr
  generalize a.eval y = v at hr
  cases hr
  simp [Builtin.cap_, ht, run_under hU, goInt]

theorem op_lenS {y : Operand} {ts : Array TypeId} {t : TypeId} {s : ByteArray} (hop : o.op = .call { callee := .builtin .len, args := #[y], argTypes := ts }) (ht : ts[0]? = some t) (hU : E.P.underlying t = some .string) (h : Hand E x a ρ H H C L) (hy : ρ y = .str s) :
    Good E ro o a x H (.int .i64 s.size) H := by
  refine op_len hop ht h ?_
  have hr := h.ρ y
  rw [hy] at hr
  generalize a.eval y = v at hr
  cases hr
  simp [Builtin.len_, ht, run_under hU]

theorem op_lenM {y : Operand} {ts : Array TypeId} {t kt et : TypeId} {es : List (AV × AV)} (hop : o.op = .call { callee := .builtin .len, args := #[y], argTypes := ts }) (ht : ts[0]? = some t) (hU : E.P.underlying t = some (.map kt et)) (h : Hand E x a ρ H H C L) (hy : MapAt H (ρ y) es)
    (hC_y : ∀ b, (ρ y).isRef b → C b) :
    Good E ro o a x H (.int .i64 es.length) H := by
  refine op_len hop ht h ?_
  have hr := h.ρ y
  have hm := h.A.map hC_y hr hy
  generalize a.eval y = v at hr
  generalize ρ y = q at hr hm
  cases hm with
  | map hb =>
    cases hr with
    | map b v hu hv h' =>
      obtain ⟨p, hp, rfl⟩ := h' _ _ hb
      obtain ⟨p', mes, clock, h1, h2, h3, h4, h5, h6⟩ := (h.W.live _ _ hb).2
      rw [hp] at h1; cases h1
      have hg := run_getObj (P := E.P) h2 (by simp)
      simp [Builtin.len_, ht, run_under hU, hg, h4]
  | nil => cases hr; simp [Builtin.len_, ht, run_under hU]

theorem patch_app {X H : Heap} {b' : Nat} {k : Option Nat} {ob : AObj} (hb : H b' = none) (hk : ∀ b, k = some b → H b ≠ none) : patch X H ((H.delO k).upd b' ob) = (X.delO k).upd b' ob := by
  funext i
  by_cases h : i = b'
  · subst h; simp [patch, Heap.upd, hb]
  · cases k with
    | none => simp [patch, Heap.upd, h, Heap.delO]
    | some b =>
      by_cases hib : i = b
      · subst hib
        have := hk i rfl
        simp [patch, Heap.upd, h, Heap.delO, Heap.del, Ne.symm this]
      · simp [patch, Heap.upd, h, Heap.delO, Heap.del, hib]

theorem Base.key {av : AV} {sz : Nat} {ss : List AV} {k : Option Nat} (h : Base H av sz ss k) : ∀ b, k = some b → H b ≠ none := by
  cases h with
  | row h hl => intro b hb; cases hb; simp [h]
  | nils => intro b hb; cases hb

theorem op_app {s y : Operand} {ts : Array TypeId} {t t' e e' : TypeId} {i : TypeInfo} {z : Value} {ss xs : List AV} {k : Option Nat} {b' : Nat} (hop : o.op = .call { callee := .builtin .append, args := #[s, y], argTypes := ts }) (hts : ts = #[t, t'])
    (ht : E.P.underlying t = some (.slice e)) (ht' : E.P.underlying t' = some (.slice e')) (hi : E.P.info? e = some i) (hz : i.zero = some z) (hzs : z.cells.size = i.size)
    (hb : H b' = none) (hs : Base H (ρ s) i.size ss k) (hx : Content H (ρ y) i.size xs) (hf : ∀ e ∈ xs, e.flat = true) (hlen : (ss.length + xs.length) * i.bytes ≤ 140737488355328) (hlen' : ss.length + xs.length ≤ 140737488355328)
    (h : Hand E x a ρ H ((H.delO k).upd b' (.row i.size (ss ++ xs))) C L)
    (hC_s : ∀ b, (ρ s).isRef b → C b)
    (hC_y : ∀ b, (ρ y).isRef b → C b) : Good E ro o a x H (.row b' 0 (ss.length + xs.length)) ((H.delO k).upd b' (.row i.size (ss ++ xs))) := by
  have hu : ¬ x.used b' := h.N b' hb (by simp [Heap.upd])
  obtain ⟨u, x', h1, h2, h3, h4, h5, h6⟩ := append_sound (P := E.P) (ty := o.type) h.W ht ht' hi hz rfl hzs hu (h.A.base (hC_s) (h.ρ s) hs) (h.A.content (hC_y) (h.ρ y) hx) (h.ρ s) (h.ρ y) hf hlen hlen'
  refine Good.value (fun c => by simp [hop]) (by rw [exec_builtin (s := Builtin.append_ ts o.type #[a.eval s, a.eval y]) hop fun consts => by simp [builtin], hts]; simp [h1]) h2 h3 h4 (by rw [h5, patch_app hb hs.key]) fun j hj => ?_
  rcases (h6 j).1 hj with hj | rfl
  · exact .inl hj
  · exact .inr ⟨hb, by simp [Heap.upd]⟩

theorem op_min2 {y z : Operand} {ts : Array TypeId} {k k' : IntKind} {n m : Int} (hop : o.op = .call { callee := .builtin .min, args := #[y, z], argTypes := ts }) (h : Hand E x a ρ H H C L) (hy : ρ y = .int k n) (hz : ρ z = .int k' m) :
    Good E ro o a x H (.int k (if m < n then m else n)) H := by
  have hr := h.ρ y
  have hr' := h.ρ z
  rw [hy] at hr; rw [hz] at hr'
  refine good_quiet_v h (fun c => by simp [hop]) (s := Builtin.min_ ts o.type #[a.eval y, a.eval z]) (exec_builtin hop fun consts => by simp [builtin]) ?_
  generalize a.eval y = v at hr; generalize a.eval z = v' at hr'
  cases hr; cases hr'
  exact ⟨_, by simp [Builtin.min_, Builtin.min2], .int _ _⟩

theorem op_max2 {y z : Operand} {ts : Array TypeId} {k k' : IntKind} {n m : Int} (hop : o.op = .call { callee := .builtin .max, args := #[y, z], argTypes := ts }) (h : Hand E x a ρ H H C L) (hy : ρ y = .int k n) (hz : ρ z = .int k' m) :
    Good E ro o a x H (.int k (if m > n then m else n)) H := by
  have hr := h.ρ y
  have hr' := h.ρ z
  rw [hy] at hr; rw [hz] at hr'
  refine good_quiet_v h (fun c => by simp [hop]) (s := Builtin.max_ ts o.type #[a.eval y, a.eval z]) (exec_builtin hop fun consts => by simp [builtin]) ?_
  generalize a.eval y = v at hr; generalize a.eval z = v' at hr'
  cases hr; cases hr'
  exact ⟨_, by simp [Builtin.max_, Builtin.max2], .int _ _⟩

theorem op_appZ {s y : Operand} {ts : Array TypeId} {t t' e : TypeId} {i : TypeInfo} {z : Value} {k k0 : IntKind} {b' n : Nat} (hop : o.op = .call { callee := .builtin .append, args := #[s, y], argTypes := ts }) (hts : ts = #[t, t'])
    (ht : E.P.underlying t = some (.slice e)) (ht' : E.P.underlying t' = some (.int k0)) (hi : E.P.info? e = some i) (hz : i.zero = some z) (hzf : (AV.ofConst z).flat = true) (hzl : (AV.ofConst z).cells.length = i.size) (h0 : 0 < i.size)
    (hb : H b' = none) (hs : ρ s = .nils) (hx : ρ y = .int k (n : Int)) (hn : 0 < n) (hlen : n * i.bytes ≤ 140737488355328) (hlen' : n ≤ 140737488355328)
    (h : Hand E x a ρ H (H.upd b' (.row i.size (List.replicate n (AV.ofConst z)))) C L) : Good E ro o a x H (.row b' 0 n) (H.upd b' (.row i.size (List.replicate n (AV.ofConst z)))) :=
  good_new h hb (fun c => by simp [hop]) (s := Builtin.append_ ts o.type #[a.eval s, a.eval y]) (by rw [exec_builtin (s := Builtin.append_ ts o.type #[a.eval s, a.eval y]) hop fun consts => by simp [builtin]])
    fun hu => by rw [hts]; exact appZ_sound h.W ht ht' hi hz rfl h0 hzf hzl hu (hs ▸ h.ρ s) (hx ▸ h.ρ y) hn hlen hlen'

theorem op_clr {y : Operand} {ts : Array TypeId} {t kt et : TypeId} {b : Nat} {fl : Bool} {es : List (AV × AV)} (hop : o.op = .call { callee := .builtin .clear, args := #[y], argTypes := ts }) (hts : ts = #[t]) (hU : E.P.underlying t = some (.map kt et))
    (h : Hand E x a ρ H (H.upd b (.map false [])) C L) (hy : ρ y = .map b) (hb : H b = some (.map fl es))
    (hC_y : ∀ b, (ρ y).isRef b → C b) : Good E ro o a x H (.tup []) (H.upd b (.map false [])) := by
  have hr := h.ρ y
  rw [hy] at hr
  have hu : x.used b := by cases hr; assumption
  have hCb : C b := hC_y _ (by rw [hy]; exact rfl)
  obtain ⟨w', h1, h2, h3⟩ := clearMap_sound (P := E.P) h.W hU o.type hr (h.A.at hCb hu hb)
  refine Good.value (v := .tuple #[]) (x' := x.put b (.map false []) w') (fun c => by simp [hop]) (by rw [exec_builtin (s := Builtin.clear_ ts o.type #[a.eval y]) hop fun consts => by simp [builtin], hts]; simp [h1, Ctx.put]) h2 h3 (.tup _ _ rfl fun j hj => by simp at hj) ?_ fun j hj => .inl hj
  rw [patch_upd (by rw [hb]; exact h.A.at hCb hu hb)]; rfl

/-- An object gets other contents, and there is a value. -/
theorem good_putv {b : Nat} {ob ob' : AObj} (h : Hand E x a ρ H (H.upd b ob') C L) (hb : H b = some ob) (hu : x.used b) (hd : ∀ c, o.op ≠ .defer c) {s : Sem Value} (he : execOp a.eval o = (do pure (.value (← s)) : Sem Next))
    (hs : x.H b = some ob → ∃ u w', s.run E.P x.w = .ok u w' ∧ RelW (x.put b ob' w') ∧ Ext x (x.put b ob' w') ∧ Rel (x.put b ob' w') r u) (hCb : C b) : Good E ro o a x H r (H.upd b ob') := by
  obtain ⟨u, w', h1, h2, h3, h4⟩ := hs (h.A.at hCb hu hb)
  refine Good.value (v := u) (x' := x.put b ob' w') hd (by rw [he]; simp [h1, Ctx.put]) h2 h3 h4 ?_ fun j hj => .inl hj
  rw [patch_upd (by rw [hb]; exact h.A.at hCb hu hb)]; rfl

theorem op_mkmapN {t kt et : TypeId} {rs : Operand} {k : IntKind} {n : Int} {b : Nat} (hop : o.op = .makeMap t (some rs)) (hU : E.P.underlying t = some (.map kt et)) (hb : H b = none) (hr : ρ rs = .int k n) (h : Hand E x a ρ H (H.upd b (.map true [])) C L) :
    Good E ro o a x H (.map b) (H.upd b (.map true [])) :=
  good_new h hb (fun c => by simp [hop]) (s := Instr.makeMap t (some (a.eval rs))) (by simp [execOp, hop]) fun hu => makeMapN_sound h.W hu hU (hr ▸ h.ρ rs)

theorem op_del {y z : Operand} {ts : Array TypeId} {t t' kt et : TypeId} {d : TypeDesc} {b : Nat} {fl : Bool} {es : List (AV × AV)} (hop : o.op = .call { callee := .builtin .delete, args := #[y, z], argTypes := ts }) (hts : ts = #[t, t']) (hU : E.P.underlying t = some (.map kt et))
    (hK : E.P.underlying kt = some d) (hkd : keyD d = true) (h : Hand E x a ρ H (H.upd b (.map fl es)) C L) (hy : ρ y = .map b) (hb : H b = some (.map fl es)) (hkf : keyFits d (ρ z) = true) (hks : ∀ e ∈ es, (keyEq (ρ z) e.1).isSome = true) (hno : mget (ρ z) es = none)
    (hC_y : ∀ b, (ρ y).isRef b → C b) : Good E ro o a x H (.tup []) (H.upd b (.map fl es)) := by
  have hr := h.ρ y
  rw [hy] at hr
  have hu : x.used b := by cases hr; assumption
  refine good_putv h hb hu (fun c => by simp [hop]) (s := Builtin.delete_ ts o.type #[a.eval y, a.eval z]) (by rw [exec_builtin (s := Builtin.delete_ ts o.type #[a.eval y, a.eval z]) hop fun consts => by simp [builtin]]) (fun hxb => ?_) (hC_y _ (by rw [hy]; exact rfl))
  obtain ⟨w', h1, h2, h3⟩ := delete_sound (P := E.P) (t' := t') h.W hU hK hkd o.type hr (h.ρ z) hxb hkf hks hno
  exact ⟨_, w', by rw [hts]; exact h1, h2, h3, .tup _ _ rfl fun j hj => by simp at hj⟩

theorem op_rng {t kt et : TypeId} {y : Operand} {mb b : Nat} {es : List (AV × AV)} (hop : o.op = .range t y) (hU : E.P.underlying t = some (.map kt et)) (hb : H b = none) (hy : ρ y = .map mb) (hmb : H mb = some (.map true es)) (h : Hand E x a ρ H (H.upd b (.iter es.length 0)) C L)
    (hC_y : ∀ b, (ρ y).isRef b → C b) : Good E ro o a x H (.itr b mb) (H.upd b (.iter es.length 0)) := by
  have hr := h.ρ y
  rw [hy] at hr
  have hu : x.used mb := by cases hr; assumption
  exact good_new h hb (fun c => by simp [hop]) (s := Instr.range t (a.eval y)) (by simp [execOp, hop]) fun hn => rangeMap_sound h.W hU hn hr (h.A.at (hC_y _ (by rw [hy]; exact rfl)) hu hmb)

theorem itr_used {y : Operand} {b m : Nat} (h : Hand E x a ρ H H' C L) (hy : ρ y = .itr b m) : x.used b ∧ x.used m ∧ Rel x (.itr b m) (a.eval y) := by
  have hr := h.ρ y
  rw [hy] at hr
  have h2 := hr
  cases hr
  exact ⟨by assumption, by assumption, h2⟩

theorem op_nxtO {y : Operand} {b m : Nat} {es : List (AV × AV)} (hop : o.op = .next y false) (h : Hand E x a ρ H H C L) (hy : ρ y = .itr b m) (hb : H b = some (.iter es.length es.length)) (hm : H m = some (.map true es)) (hC_y : ∀ b, (ρ y).isRef b → C b) :
    Good E ro o a x H (.tup [.bool false]) H := by
  obtain ⟨u1, u2, hr⟩ := itr_used h hy
  refine good_quiet_v h (fun c => by simp [hop]) (s := Instr.next (a.eval y) false o.type) (by simp [execOp, hop]) ⟨_, next_over h.W o.type hr (h.A.at (hC_y _ (by rw [hy]; exact .inl rfl)) u1 hb) (h.A.at (hC_y _ (by rw [hy]; exact .inr rfl)) u2 hm), ?_⟩
  exact .tup _ _ rfl fun j hj => by
    obtain rfl : j = 0 := by simpa using hj
    exact .bool false

theorem op_nxtS {y : Operand} {b m k : Nat} {es : List (AV × AV)} (hop : o.op = .next y false) (h : Hand E x a ρ H (H.upd b (.iter es.length (k + 1))) C L) (hy : ρ y = .itr b m) (hk : es.length = k + 1) (hb : H b = some (.iter es.length k)) (hm : H m = some (.map true es)) (hC_y : ∀ b, (ρ y).isRef b → C b) :
    Good E ro o a x H (.tup [.bool true, (es.getD k (.any, .any)).1, (es.getD k (.any, .any)).2]) (H.upd b (.iter es.length (k + 1))) := by
  obtain ⟨u1, u2, hr⟩ := itr_used h hy
  refine good_putv h hb u1 (fun c => by simp [hop]) (s := Instr.next (a.eval y) false o.type) (by simp [execOp, hop]) (fun hxb => ?_) (hC_y _ (by rw [hy]; exact .inl rfl))
  exact next_one h.W o.type hr hk hxb (h.A.at (hC_y _ (by rw [hy]; exact .inr rfl)) u2 hm)

theorem op_ent {y : Operand} {b m j : Nat} {es : List (AV × AV)} (hop : o.op = .entry y) (h : Hand E x a ρ H H C L) (hy : ρ y = .itr b m) (hj : j < es.length) (hb : H b = some (.iter es.length (j + 1))) (hm : H m = some (.map true es)) (hC_y : ∀ b, (ρ y).isRef b → C b) :
    Good E ro o a x H (.tup [(es.getD j (.any, .any)).1, (es.getD j (.any, .any)).2]) H := by
  obtain ⟨u1, u2, hr⟩ := itr_used h hy
  exact good_quiet_v h (fun c => by simp [hop]) (s := Instr.entry (a.eval y)) (by simp [execOp, hop]) (entry_sound h.W hr hj (h.A.at (hC_y _ (by rw [hy]; exact .inl rfl)) u1 hb) (h.A.at (hC_y _ (by rw [hy]; exact .inr rfl)) u2 hm))

theorem op_asl {t e : TypeId} {i : TypeInfo} {y : Operand} {n b off : Nat} {cs : List AV} (hop : o.op = .slice t y none none none) (hU : E.P.underlying t = some (.array n e)) (hI : E.P.info? e = some i) (h : Hand E x a ρ H H C L) (hy : ρ y = .ptr b off) (hb : H b = some (.var cs)) (hl : off + n * i.size ≤ cs.length)
    (hL_y : ∀ b, (ρ y).isRef b → L b) : Good E ro o a x H (.vsl b off n i.size) H := by
  have hr := h.ρ y
  rw [hy] at hr
  have hu : x.used b := by cases hr; assumption
  obtain ⟨cs', h1, h2⟩ := h.A.var (hL_y _ (by rw [hy]; exact rfl)) hu hb
  exact good_quiet_v h (fun c => by simp [hop]) (s := Instr.sliceAt t (a.eval y) none none none) (by simp [execOp, hop]) (asl_sound hU hI rfl hr h1 (by omega))

theorem op_cpV {y z : Operand} {ts : Array TypeId} {t t' e : TypeId} {i : TypeInfo} {b off n : Nat} {cs es : List AV} (hop : o.op = .call { callee := .builtin .copy, args := #[y, z], argTypes := ts }) (hts : ts = #[t, t']) (hU : E.P.underlying t = some (.slice e)) (hI : E.P.info? e = some i)
    (h : Hand E x a ρ H (H.upd b (.var (lay cs off (es.flatMap AV.cells)))) C L) (hy : ρ y = .vsl b off n i.size) (hb : H b = some (.var cs)) (hs : Content H (ρ z) i.size es) (hf : ∀ e ∈ es, e.flat = true) (hn : es.length ≤ n)
    (hC_y : ∀ b, (ρ y).isRef b → C b) (hC_z : ∀ b, (ρ z).isRef b → C b) : Good E ro o a x H (.int .i64 es.length) (H.upd b (.var (lay cs off (es.flatMap AV.cells)))) := by
  have hr := h.ρ y
  rw [hy] at hr
  have hu : x.used b := by cases hr; assumption
  refine good_putv h hb hu (fun c => by simp [hop]) (s := Builtin.copy_ ts o.type #[a.eval y, a.eval z]) (by rw [exec_builtin (s := Builtin.copy_ ts o.type #[a.eval y, a.eval z]) hop fun consts => by simp [builtin]]) (fun hxb => ?_) (hC_y _ (by rw [hy]; exact rfl))
  obtain ⟨w', h1, h2, h3⟩ := copy_sound (P := E.P) (t' := t') (ty := o.type) h.W hU hI rfl hr hxb (h.A.content hC_z (h.ρ z) hs) (h.ρ z) hf hn
  exact ⟨_, w', by rw [hts]; exact h1, h2, h3, .int _ _⟩

/-- A call of a function value: what it gives, whatever else the world holds. -/
def CallOk (E : Env) (fv : AV) (as : List AV) (H : Heap) (n : Nat) (r : AV) (H' : Heap) (n' : Nat) : Prop :=
  n ≤ n' ∧ (∀ b, n' ≤ b → H' b = none) ∧ (∀ b, H b = none → H' b ≠ none → n ≤ b) ∧
  ∀ x, RelW x → GOk E x → AgS (fun _ => True) (fun _ => True) x H → (∀ b, n ≤ b → b < n' → ¬ x.used b) → ∀ f vs, Rel x fv f → Args x as vs →
    InvIn E.P f vs x.w fun v w' => ∃ x', x'.w = w' ∧ RelW x' ∧ Ext x x' ∧ x'.H = patch x.H H H' ∧ Rel x' r v ∧ ∀ b, x'.used b → x.used b ∨ (n ≤ b ∧ b < n')

def GoodN (E : Env) (ro : Option Nat) (o : Oper) (a : Act) (x : Ctx) (H : Heap) (n : Nat) (r : AV) (H' : Heap) (n' : Nat) : Prop :=
  ∀ (K : Act → World → Prop) (Q : Exit → Act → World → Prop), (∀ v x', RelW x' → Ext x x' → Rel x' r v → x'.H = patch x.H H H' → (∀ b, x'.used b → x.used b ∨ (n ≤ b ∧ b < n')) → K (a.put o.dst v) x'.w) →
    o.wpIn (fence ro) 0 E.P a x.w K Q

theorem op_call {f : Operand} {args : Array Operand} {ts : Array TypeId} {n n' : Nat} (hop : o.op = .call { callee := .value f, args, argTypes := ts })
    (fc : CallOk E (ρ f) (args.toList.map ρ) H n r H' n') (hW : RelW x) (hG : GOk E x) (hρ : ∀ o, Rel x (ρ o) (a.eval o)) (hA : AgS (fun _ => True) (fun _ => True) x H) (hN : ∀ b, n ≤ b → b < n' → ¬ x.used b) : GoodN E ro o a x H n r H' n' := by
  have hargs : Args x (args.toList.map ρ) (args.map a.eval) := by
    refine ⟨by simp, fun j hj => ?_⟩
    have hj' : j < args.size := by simpa using hj
    have := hρ (args[j])
    simpa [List.getD_eq_getElem?_getD, Array.getD_eq_getD_getElem?, hj'] using this
  have hinv := fc.2.2.2 x hW hG hA hN _ _ (hρ f) hargs
  intro K Q hK
  refine ⟨fun _ _ => trivial, ?_⟩
  rw [Oper.semAt_eq _ _ _ (fun c => by simp [hop])]
  have hexec : execOp a.eval o = (do let d ← Deferred.ofValue (a.eval f) (args.map a.eval); invoke d.target d.args) := by simp [execOp, hop, resolve]
  rw [hexec]
  have fin : ∀ v w', (∃ x', x'.w = w' ∧ RelW x' ∧ Ext x x' ∧ x'.H = patch x.H H H' ∧ Rel x' r v ∧ ∀ b, x'.used b → x.used b ∨ (n ≤ b ∧ b < n')) → K (a.put o.dst v) w' := by
    rintro v w' ⟨x', rfl, k1, k2, k3, k4, k5⟩
    exact hK v x' k1 k2 k4 k3 k5
  unfold InvIn at hinv
  generalize ((do let d ← Deferred.ofValue (a.eval f) (args.map a.eval); invoke d.target d.args : Sem Next).run E.P x.w) = res at hinv ⊢
  cases res with
  | halt _ _ => exact hinv.elim
  | ok nx w' =>
    cases nx with
    | value v => exact fin _ _ hinv
    | enter g as =>
      have hc : CallsIn Fence.wide 0 E.P g as w' fun
          | .returned v, w'' => K (a.put o.dst v) w''
          | .panicked chain, w'' => Q (.panic chain) a w''
          | .outgrown, _ => LetsOut Q := CallsIn.mono hinv fun e w' ⟨v, he, hv⟩ => by subst he; exact fin _ _ hv
      exact ⟨fun hd => by simp [fence, Fence.wide] at hd, hc⟩
    | round l g tmps as body =>
      have hc : RoundIn Fence.wide 0 E.P l g tmps as body w' fun
          | .returned v, w'' => K (a.put o.dst v) w''
          | .panicked chain, w'' => Q (.panic chain) a w''
          | .outgrown, _ => LetsOut Q := RoundIn.mono hinv fun e w' ⟨v, he, hv⟩ => by subst he; exact fin _ _ hv
      exact ⟨fun hd => by simp [fence, Fence.wide] at hd, hc⟩
    | _ => exact hinv.elim

end
end Go.Abs

namespace Go.Abs
open Go

section
variable {C L : Nat → Prop} {E : Env} {ro : Option Nat} {o : Oper} {a : Act} {x : Ctx} {ρ : Operand → AV} {H H' : Heap} {r : AV} {rop : ROp}

theorem bound_of (h : Hand E x a ρ H H' C L) {lo : Option Operand} {l : Nat} {P : Prop} (hlo : lo = none ∧ P ∨ ∃ o k, lo = some o ∧ ρ o = .int k (l : Int)) : (lo.map a.eval = none ∧ P) ∨ ∃ k, lo.map a.eval = some (.int k (l : Int)) := by
  rcases hlo with ⟨rfl, hp⟩ | ⟨o, k, rfl, ho⟩
  · exact .inl ⟨rfl, hp⟩
  · refine .inr ⟨k, ?_⟩
    have hr := h.ρ o
    rw [ho] at hr
    generalize hv : a.eval o = v at hr
    cases hr
    simp [hv]

theorem op_cut {t e : TypeId} {i : TypeInfo} {y : Operand} {lo hi : Option Operand} {l hh : Nat} (hop : o.op = .slice t y lo hi none) (hU : E.P.underlying t = some (.slice e)) (hI : E.P.info? e = some i)
    (h : Hand E x a ρ H H C L) (ho : CutOk H i.size (ρ y) l hh) (hlo : lo = none ∧ l = 0 ∨ ∃ o k, lo = some o ∧ ρ o = .int k (l : Int)) (hhi : hi = none ∧ hh = (ρ y).slen ∨ ∃ o k, hi = some o ∧ ρ o = .int k (hh : Int))
    (hL_y : ∀ b, (ρ y).isRef b → L b) :
    Good E ro o a x H (cutAV l hh (ρ y)) H :=
  good_quiet_v h (fun c => by simp [hop]) (s := Instr.sliceAt t (a.eval y) (lo.map a.eval) (hi.map a.eval) none) (by simp [execOp, hop])
    (slice_sound h.W hU hI rfl (h.ρ y) (h.A.cut (hL_y) (h.ρ y) ho) (bound_of h hlo) (bound_of h hhi))

theorem op_cutS {t : TypeId} {y : Operand} {lo hi : Option Operand} {l hh : Nat} {s : ByteArray} (hop : o.op = .slice t y lo hi none) (hU : E.P.underlying t = some .string)
    (h : Hand E x a ρ H H C L) (hy : ρ y = .str s) (h1 : l ≤ hh) (h2 : hh ≤ s.size) (hlo : lo = none ∧ l = 0 ∨ ∃ o k, lo = some o ∧ ρ o = .int k (l : Int)) (hhi : hi = none ∧ hh = s.size ∨ ∃ o k, hi = some o ∧ ρ o = .int k (hh : Int)) :
    Good E ro o a x H (.str (s.extract l hh)) H :=
  good_quiet_v h (fun c => by simp [hop]) (s := Instr.sliceAt t (a.eval y) (lo.map a.eval) (hi.map a.eval) none) (by simp [execOp, hop])
    (sliceS_sound hU (hy ▸ h.ρ y) h1 h2 (bound_of h hlo) (bound_of h hhi))

theorem op_mksl {t e : TypeId} {i : TypeInfo} {z : Value} {l c : Operand} {k k' : IntKind} {n m b : Nat} (hop : o.op = .makeSlice t l c) (hU : E.P.underlying t = some (.slice e)) (hI : E.P.info? e = some i) (hz : i.zero = some z)
    (hzf : (AV.ofConst z).flat = true) (hzl : (AV.ofConst z).cells.length = i.size) (h0 : 0 < i.size) (hb : H b = none) (hl : ρ l = .int k (n : Int)) (hc : ρ c = .int k' (m : Int)) (hnm : n ≤ m) (hbytes : m * i.bytes ≤ 140737488355328) (hm : m ≤ 140737488355328)
    (h : Hand E x a ρ H (H.upd b (.row i.size (List.replicate m (AV.ofConst z)))) C L) : Good E ro o a x H (.row b 0 n) (H.upd b (.row i.size (List.replicate m (AV.ofConst z)))) :=
  good_new h hb (fun c => by simp [hop]) (s := Instr.makeSlice t (a.eval l) (a.eval c)) (by simp [execOp, hop])
    fun hu => makeSlice_sound h.W hU hI hz rfl h0 hzf hzl hu (hl ▸ h.ρ l) (hc ▸ h.ρ c) hnm hbytes hm

theorem op_bslice {t e : TypeId} {i : TypeInfo} {z : Value} {len : Nat} {ps : Array (Nat × Operand)} {b : Nat} (hop : o.op = .buildSlice t len ps) (hU : E.P.underlying t = some (.slice e)) (hI : E.P.info? e = some i) (hz : i.zero = some z) (hzs : z.cells.size = i.size) (h0 : 0 < i.size)
    (hsmall : len * i.size ≤ 16777216) (hps : ps.toList.map Prod.fst = List.range len) (hb : H b = none) (hf : ∀ q ∈ ps.toList.map Prod.snd, (ρ q).flat = true ∧ (ρ q).cells.length = i.size)
    (h : Hand E x a ρ H (H.upd b (.row i.size ((ps.toList.map Prod.snd).map ρ))) C L) : Good E ro o a x H (.row b 0 (ps.toList.map Prod.snd).length) (H.upd b (.row i.size ((ps.toList.map Prod.snd).map ρ))) := by
  have hlen : ps.toList.length = len := by have := congrArg List.length hps; simpa using this
  refine good_new h hb (fun c => by simp [hop]) (s := Instr.buildSlice t len (ps.map fun q => (q.1, a.eval q.2))) (by simp [execOp, hop]) fun hu => ?_
  have := buildSlice_sound (P := E.P) h.W hU hI hz rfl hzs h0 hu (ps := ps.toList.map fun q => (ρ q.2, a.eval q.2)) (len := len) (by simpa using hlen) hsmall (fun q hq => by
    obtain ⟨q', hq', rfl⟩ := List.mem_map.1 hq
    exact ⟨h.ρ _, hf _ (List.mem_map_of_mem hq')⟩)
  have e1 : ((ps.toList.map fun q => (ρ q.2, a.eval q.2)).zipIdx.map fun q => (q.2, q.1.2)).toArray = ps.map fun q => (q.1, a.eval q.2) := by
    apply Array.ext'
    simp only [Array.toList_map]
    apply List.ext_getElem?
    intro j
    have hj := congrArg (fun l : List Nat => l[j]?) hps
    simp only [List.getElem?_map, List.getElem?_zipIdx] at hj ⊢
    cases hq : ps.toList[j]? with
    | none => simp
    | some q =>
      have hjl : j < len := by rw [← hlen]; exact (List.getElem?_eq_some_iff.1 hq).1
      simp [hq, hjl] at hj
      simp [hj]
  have e2 : (ps.toList.map fun q => (ρ q.2, a.eval q.2)).map Prod.fst = (ps.toList.map Prod.snd).map ρ := by simp [Function.comp_def]
  have e3 : (ps.toList.map Prod.snd).length = len := by simpa using hlen
  rw [e1, e2] at this
  rw [e3]
  exact this

theorem mapM_buildPart {P : Program} {fs : Array Field} {m : Nat} : ∀ {ps : List (Nat × Operand)} {l : List (Nat × Nat × Operand)}, ps.mapM (buildPart P fs m) = some l →
    l.length = ps.length ∧ ∀ j, j < ps.length → ∃ f i, fs[(ps.getD j (0, default)).1]? = some f ∧ P.info? f.type = some i ∧ f.offset + i.size ≤ m ∧ l.getD j (0, 0, default) = (f.offset, i.size, (ps.getD j (0, default)).2)
  | [], l, h => by simp at h; subst h; exact ⟨rfl, fun j hj => by simp at hj⟩
  | p :: ps, l, h => by
    simp only [List.mapM_cons, Option.bind_eq_bind, Option.bind_eq_some_iff] at h
    obtain ⟨q, hq, l', hl', h⟩ := h
    simp only [Option.pure_def, Option.some.injEq] at h
    subst h
    obtain ⟨k1, k2⟩ := mapM_buildPart hl'
    refine ⟨by simp [k1], fun j hj => ?_⟩
    cases j with
    | zero =>
      simp only [List.getD_cons_zero]
      simp only [buildPart] at hq
      split at hq
      · rename_i f hf
        split at hq
        · rename_i i hi
          split at hq
          · rename_i hle
            exact ⟨f, i, hf, hi, hle, by simpa using hq.symm⟩
          · cases hq
        · cases hq
      · cases hq
    | succ j => simpa using k2 j (by simpa using hj)

theorem op_build_gen {t : TypeId} {i : TypeInfo} {z : Value} {zs : List AV} {ps : Array (Nat × Operand)} {l : List (Nat × Nat × Operand)} {place : Nat → Option (Nat × Nat)} (hop : o.op = .build t ps) (hI : E.P.info? t = some i) (hz : i.zero = some z) (hzs : AV.ofConst z = .agg zs)
    (hpl : ∀ (w : World) (parts : Array (Nat × Value)) (c' : Array Value), Instr.fill place z.cells parts.toList = some c' → (Instr.build t parts).run E.P w = .ok (.agg c') w)
    (hl : l.length = ps.toList.length) (hlp : ∀ j, j < ps.toList.length → ∃ off n, place (ps.toList.getD j (0, default)).1 = some (off, n) ∧ off + n ≤ zs.length ∧ l.getD j (0, 0, default) = (off, n, (ps.toList.getD j (0, default)).2))
    (h : Hand E x a ρ H H C L) (hf : ∀ q ∈ l, (ρ q.2.2).flat = true ∧ (ρ q.2.2).cells.length = q.2.1) : Good E ro o a x H (.agg (fillAV zs (l.map fun q => (q.1, (ρ q.2.2).cells)))) H := by
  have hb := build_sound (P := E.P) (x := x) (place := place) hI hz hzs hpl (ps := ps.toList.map fun q => (q.1, ρ q.2, a.eval q.2)) (fun q hq => by
    obtain ⟨q', hq', rfl⟩ := List.mem_map.1 hq
    obtain ⟨j, hj, rfl⟩ := mem_getD (0, default) hq'
    obtain ⟨off, n, h1, h2, h3⟩ := hlp j hj
    have hm := getD_mem (0, 0, default) (show j < l.length by omega)
    have := hf _ hm
    rw [h3] at this
    exact ⟨h.ρ _, this.1, off, by simp only; rw [h1, this.2], by simp only; rw [this.2]; exact h2⟩)
  have e1 : ((ps.toList.map fun q => (q.1, ρ q.2, a.eval q.2)).map fun q => (q.1, q.2.2)).toArray = ps.map fun q => (q.1, a.eval q.2) := by
    apply Array.ext'; simp [Function.comp_def]
  have e2 : ((ps.toList.map fun q => (q.1, ρ q.2, a.eval q.2)).map fun q => (((place q.1).getD (0, 0)).1, q.2.1.cells)) = l.map fun q => (q.1, (ρ q.2.2).cells) := by
    apply List.ext_getElem?
    intro j
    by_cases hj : j < ps.toList.length
    · obtain ⟨off, n, h1, h2, h3⟩ := hlp j hj
      have hj' : j < l.length := by omega
      have g1 : ps.toList[j]? = some (ps.toList.getD j (0, default)) := by simp only [List.getD_eq_getElem?_getD, List.getElem?_eq_getElem hj, Option.getD_some]
      have g2 : l[j]? = some (l.getD j (0, 0, default)) := by simp only [List.getD_eq_getElem?_getD, List.getElem?_eq_getElem hj', Option.getD_some]
      simp only [List.getElem?_map, g1, g2, Option.map_some, h1, Option.getD_some, h3]
    · have hj' : ¬ j < l.length := by omega
      simp only [List.getElem?_map, List.getElem?_eq_none (Nat.le_of_not_lt hj), List.getElem?_eq_none (Nat.le_of_not_lt hj'), Option.map_none]
  rw [e1, e2] at hb
  exact good_quiet_v h (fun c => by simp [hop]) (s := Instr.build t (ps.map fun q => (q.1, a.eval q.2))) (by simp [execOp, hop]) hb

end
end Go.Abs

namespace Go.Abs
open Go

section
variable {C L : Nat → Prop} {E : Env} {ro : Option Nat} {o : Oper} {a : Act} {x : Ctx} {ρ : Operand → AV} {H H' : Heap} {r : AV} {rop : ROp}

theorem toArray1 {args : Array Operand} {y : Operand} (h : args.toList = [y]) : args = #[y] := by apply Array.ext'; simp [h]
theorem toArray2 {args : Array Operand} {y z : Operand} (h : args.toList = [y, z]) : args = #[y, z] := by apply Array.ext'; simp [h]

/-- The operands whose objects' contents an operation reads; those whose objects must be there. -/
def ROp.cops : ROp → List Operand
  | .load _ _ p => [p] | .store _ p _ => [p] | .look _ _ _ m _ => [m] | .mapup _ m _ _ => [m] | .lenM m => [m] | .app _ _ s x => [s, x] | .clr m => [m] | .convB x => [x] | .del _ m _ => [m] | .rng m => [m] | .nxt it => [it] | .ent it => [it] | .cpV _ d s => [d, s] | _ => []
def ROp.lops : ROp → List Operand
  | .nilc x | .faddr _ x | .iaddr _ x _ | .iaddrA _ _ x _ | .len x | .isnil x | .cut _ x _ _ | .asl _ _ x => [x] | _ => []

theorem bind_some {α β : Type} {q : Option α} {f : α → Option β} {b : β} (h : q.bind f = some b) : ∃ t, q = some t ∧ f t = some b := Option.bind_eq_some_iff.1 h

theorem call_good {c : Call} (hop : o.op = .call c) (hres : resolveCall E.P c = some rop) (hL : Ls E ρ H rop r H') (h : Hand E x a ρ H H' C L)
    (hC : ∀ o ∈ rop.cops, ∀ b, (ρ o).isRef b → C b) (hL' : ∀ o ∈ rop.lops, ∀ b, (ρ o).isRef b → L b) : Good E ro o a x H r H' := by
  obtain ⟨callee, args, ts⟩ := c
  simp only [resolveCall] at hres
  split at hres
  · simp only [Option.some.injEq] at hres
    subst hres
    cases hL
  · rename_i y has
    obtain rfl := toArray1 has
    split at hres
    · rename_i e hU
      obtain ⟨t, ht, hU⟩ := bind_some hU
      simp only [Option.some.injEq] at hres
      subst hres
      cases hL with
      | lenL hy => exact op_lenSl hop ht hU h (.inl ⟨_, _, hy, rfl⟩) (hL' _ (by simp [ROp.lops]))
      | lenR hy hb => exact op_lenSl hop ht hU h (.inr (.inl ⟨_, _, _, _, hy, hb⟩)) (hL' _ (by simp [ROp.lops]))
      | lenN hy => exact op_lenSl (n := 0) hop ht hU h (.inr (.inr ⟨hy, rfl⟩)) (hL' _ (by simp [ROp.lops]))
    · rename_i hU
      obtain ⟨t, ht, hU⟩ := bind_some hU
      simp only [Option.some.injEq] at hres
      subst hres
      cases hL with
      | lenS hy => exact op_lenS hop ht hU h hy
    · rename_i kt et hU
      obtain ⟨t, ht, hU⟩ := bind_some hU
      simp only [Option.some.injEq] at hres
      subst hres
      cases hL with
      | lenM hm => exact op_lenM hop ht hU h hm (hC _ (by simp [ROp.cops]))
    · cases hres
  · rename_i y has
    obtain rfl := toArray1 has
    split at hres
    · rename_i e hU
      obtain ⟨t, ht, hU⟩ := bind_some hU
      simp only [Option.some.injEq] at hres
      subst hres
      cases hL with
      | capN hy => exact op_capN hop ht hU h hy
    · cases hres
  · rename_i s y has
    obtain rfl := toArray2 has
    split at hres
    · rename_i e e' hU hU'
      obtain ⟨t, ht, hU⟩ := bind_some hU
      obtain ⟨t', ht', hU'⟩ := bind_some hU'
      split at hres
      · rename_i i hi
        split at hres
        · rename_i z hz
          split at hres
          · rename_i hc
            simp only [Option.some.injEq] at hres
            subst hres
            have hts : ts = #[t, t'] := by
              apply Array.ext
              · simp [hc.2]
              · intro j h1 h2
                have h2 : j < 2 := by simpa using h2
                match j, h2 with
                | 0, _ => simpa [Array.getElem?_eq_getElem h1] using ht
                | 1, _ => simpa [Array.getElem?_eq_getElem h1] using ht'
            cases hL with
            | app hb hs hx hf hlen hlen' => exact op_app hop hts hU hU' hi hz hc.1 hb hs hx hf hlen hlen' h (hC _ (by simp [ROp.cops])) (hC _ (by simp [ROp.cops]))
          · cases hres
        · cases hres
      · cases hres
    · rename_i e k0 hU hU'
      obtain ⟨t, ht, hU⟩ := bind_some hU
      obtain ⟨t', ht', hU'⟩ := bind_some hU'
      split at hres
      · rename_i i hi
        split at hres
        · rename_i z hz
          split at hres
          · rename_i hc
            simp only [Option.some.injEq] at hres
            subst hres
            have hts : ts = #[t, t'] := by
              apply Array.ext
              · simp [hc.2]
              · intro j h1 h2
                have h2 : j < 2 := by simpa using h2
                match j, h2 with
                | 0, _ => simpa [Array.getElem?_eq_getElem h1] using ht
                | 1, _ => simpa [Array.getElem?_eq_getElem h1] using ht'
            cases hL with
            | appZ hb hs hx hn hlen hlen' => exact op_appZ hop hts hU hU' hi hz hc.1.1 hc.1.2.1 hc.1.2.2 hb hs hx hn hlen hlen' h
          · cases hres
        · cases hres
      · cases hres
    · cases hres
  · rename_i y z has
    obtain rfl := toArray2 has
    simp only [Option.some.injEq] at hres
    subst hres
    cases hL with
    | min2 hy hz => exact op_min2 hop h hy hz
  · rename_i y z has
    obtain rfl := toArray2 has
    simp only [Option.some.injEq] at hres
    subst hres
    cases hL with
    | max2 hy hz => exact op_max2 hop h hy hz
  · rename_i y has
    obtain rfl := toArray1 has
    split at hres
    · rename_i kt et hU
      obtain ⟨t, ht, hU⟩ := bind_some hU
      split at hres
      · rename_i hc
        simp only [Option.some.injEq] at hres
        subst hres
        have hts : ts = #[t] := by
          apply Array.ext
          · simp [hc]
          · intro j h1 h2
            have h2 : j < 1 := by simpa using h2
            obtain rfl : j = 0 := by omega
            simpa [Array.getElem?_eq_getElem h1] using ht
        cases hL with
        | clr hm hb => exact op_clr hop hts hU h hm hb (hC _ (by simp [ROp.cops]))
      · cases hres
    · cases hres
  · rename_i y z has
    obtain rfl := toArray2 has
    split at hres
    · rename_i kt et hU
      obtain ⟨t, ht, hU⟩ := bind_some hU
      split at hres
      · rename_i d hK
        split at hres
        · rename_i hc
          simp only [Option.some.injEq] at hres
          subst hres
          have hts : ∃ t', ts = #[t, t'] := by
            refine ⟨ts.getD 1 0, ?_⟩
            apply Array.ext
            · simp [hc.2]
            · intro q h1 h2
              have h2 : q < 2 := by simpa using h2
              match q, h2 with
              | 0, _ => simpa [Array.getElem?_eq_getElem h1] using ht
              | 1, _ => simp [Array.getD_eq_getD_getElem?, h1]
          obtain ⟨t', hts⟩ := hts
          cases hL with
          | del hm hb hkf hks hno => exact op_del hop hts hU hK hc.1 h hm hb hkf hks hno (hC _ (by simp [ROp.cops]))
        · cases hres
      · cases hres
    · cases hres
  · rename_i y z has
    obtain rfl := toArray2 has
    split at hres
    · rename_i e hU
      obtain ⟨t, ht, hU⟩ := bind_some hU
      split at hres
      · rename_i i hI
        split at hres
        · rename_i hc0
          have hc : True ∧ ts.size = 2 := ⟨trivial, hc0⟩
          simp only [Option.some.injEq] at hres
          subst hres
          have hts : ∃ t', ts = #[t, t'] := by
            refine ⟨ts.getD 1 0, ?_⟩
            apply Array.ext
            · simp [hc.2]
            · intro q h1 h2
              have h2 : q < 2 := by simpa using h2
              match q, h2 with
              | 0, _ => simpa [Array.getElem?_eq_getElem h1] using ht
              | 1, _ => simp [Array.getD_eq_getD_getElem?, h1]
          obtain ⟨t', hts⟩ := hts
          cases hL with
          | cpV hd hb hs hf hn => exact op_cpV hop hts hU hI h hd hb hs hf hn (hC _ (by simp [ROp.cops])) (hC _ (by simp [ROp.cops]))
        · cases hres
      · cases hres
    · cases hres
  · cases hres

/-- AN OPERATION DOES WHAT ITS RESOLVED FORM SAYS. -/
theorem op_good (hres : resolveOp E.P o.op = some rop) (hL : Ls E ρ H rop r H') (h : Hand E x a ρ H H' C L)
    (hC : ∀ o ∈ rop.cops, ∀ b, (ρ o).isRef b → C b) (hL' : ∀ o ∈ rop.lops, ∀ b, (ρ o).isRef b → L b) : Good E ro o a x H r H' := by
  cases hop : o.op <;> rw [hop] at hres <;> simp only [resolveOp] at hres
  case move y =>
    cases hres; cases hL; exact op_move (.inl hop) h
  case assign y =>
    cases hres; cases hL; exact op_move (.inr hop) h
  case pick c p q =>
    cases hres; cases hL with | pick hc => exact op_pick hop h hc
  case alloc t =>
    split at hres
    · rename_i i hi
      split at hres
      · rename_i z hz
        split at hres
        · rename_i hf
          cases hres
          cases hL with | zero hb => exact op_zero hop hi hz hf hb h
        · cases hres
      · cases hres
    · cases hres
  case box t y =>
    cases hres; cases hL with | box hb hf => exact op_box hop hf hb h
  case build t ps =>
    split at hres
    · rename_i i fs hi hU
      split at hres
      · rename_i z hz
        split at hres
        · rename_i zs hzs
          split at hres
          · rename_i hall
            simp only [Option.map_eq_some_iff] at hres
            obtain ⟨l, hl, rfl⟩ := hres
            obtain ⟨k1, k2⟩ := mapM_buildPart hl
            cases hL with
            | build hf =>
              refine op_build_gen (place := fun k => (fs[k]?).map fun f => (f.offset, ((E.P.info? f.type).map (·.size)).getD 0)) hop hi hz hzs
                (fun w parts c' hc => run_build_struct hi hz hU (fun t => ((E.P.info? t).map (·.size)).getD 0) (fun f hf' => ?_) w parts c' hc) k1 (fun j hj => ?_) h hf
              · have := (Array.all_eq_true'.1 hall) f hf'
                obtain ⟨fi, hfi⟩ := Option.isSome_iff_exists.1 this
                exact ⟨fi, hfi, by simp [hfi]⟩
              · obtain ⟨f, fi, g1, g2, g3, g4⟩ := k2 j hj
                exact ⟨f.offset, fi.size, by simp only [g1, Option.map_some, g2, Option.getD_some], g3, g4⟩
          · cases hres
        · cases hres
      · cases hres
    · rename_i i n e hi hU
      split at hres
      · rename_i z hz
        split at hres
        · rename_i zs hzs
          split at hres
          · rename_i ei hei
            split at hres
            · rename_i hall
              cases hres
              cases hL with
              | build hf =>
                refine op_build_gen (place := fun k => some (k * ei.size, ei.size)) hop hi hz hzs (fun w parts c' hc => run_build_array hi hz hU hei w parts c' hc) (by simp) (fun j hj => ?_) h hf
                refine ⟨_, _, rfl, ?_, ?_⟩
                · have := (List.all_eq_true.1 hall) _ (getD_mem (0, default) hj)
                  simpa using this
                · rw [getD_map _ _ _ (0, default) _ hj]
            · cases hres
          · cases hres
        · cases hres
      · cases hres
    · cases hres
  case buildSlice t len ps =>
    split at hres
    · rename_i e hU
      split at hres
      · rename_i i hi
        split at hres
        · rename_i z hz
          split at hres
          · rename_i hc
            cases hres
            cases hL with | bslice hb hf => exact op_bslice hop hU hi hz hc.1 hc.2.1 hc.2.2.1 hc.2.2.2 hb hf h
          · cases hres
        · cases hres
      · cases hres
    · cases hres
  case load t y =>
    split at hres
    · rename_i d i hU hI
      split at hres
      · rename_i h1
        cases hres
        cases hL with | load hb hl => exact op_load hop hU hI h1 h hb hl (hC _ (by simp [ROp.cops]))
      · cases hres
    · cases hres
  case store t p y =>
    split at hres
    · rename_i i hI
      split at hres
      · rename_i h0
        cases hres
        cases hL with
        | storeV hp hb hf hc hl => exact op_storeV hop hI h hp hb hf hc hl (hC _ (by simp [ROp.cops]))
        | storeR hp hb hf hc hl => exact op_storeR hop hI h0 h hp hb hf hc hl (hC _ (by simp [ROp.cops]))
      · cases hres
    · cases hres
  case nilCheck y =>
    cases hres
    cases hL with
    | nilcP hl => exact op_nilcP hop h hl (hL' _ (by simp [ROp.lops]))
    | nilcF hy => exact op_nilcF hop h hy
  case binOp op t y z t' =>
    split at hres
    · rename_i e hU
      cases hres
      cases hL with
      | isnilN hy => exact op_isnil hop hU h (isnil_N h hy)
      | isnilL hy hne => exact op_isnil hop hU h (isnil_L h hy hne)
      | isnilR hy hb hn => exact op_isnil hop hU h (isnil_R h hy hb hn (hL' _ (by simp [ROp.lops])))
    · rename_i d _ _ hU _
      split at hres
      · rename_i hd
        split at hres
        · rename_i c hf
          split at hres
          · rename_i hc
            cases hres
            cases hL with
            | eqA hy hz hl hq =>
              have := op_eqA (ro := ro) hop hU hd hf hc.2 hc.1 h hy hz hl hq
              simpa using this
          · cases hres
        · cases hres
      · cases hres
        cases hL with | bin hb => exact op_bin hop hU h hb
    · cases hres
  case unOp op t y =>
    cases hres
    cases hL with | un hb => exact op_un hop h hb
  case convert s t y =>
    split at hres
    · rename_i k0 k hs ht
      cases hres
      cases hL with | convI hy => exact op_convI hop hs ht h hy
    · rename_i hs ht
      cases hres
      cases hL with | convS hy => exact op_convS hop hs ht h hy
    · rename_i e hs ht
      split at hres
      · rename_i he
        cases hres
        cases hL with | convB hc hb => exact op_convB hop hs he ht h hc hb (hC _ (by simp [ROp.cops]))
      · cases hres
    · cases hres
  case makeFunc f first cap =>
    cases hres
    cases hL with | mkfn => exact op_mkfn hop h
  case makeMap t rs =>
    cases rs with
    | none =>
      simp only [Option.some.injEq] at hres
      subst hres
      cases hL with | mkmap hb => exact op_mkmap hop hb h
    | some q =>
      simp only at hres
      split at hres
      · rename_i kt et hU
        cases hres
        cases hL with | mkmapN hb hr => exact op_mkmapN hop hU hb hr h
      · cases hres
  case range t y =>
    split at hres
    · rename_i kt et hU
      cases hres
      cases hL with | rng hb hm hmb => exact op_rng hop hU hb hm hmb h (hC _ (by simp [ROp.cops]))
    · cases hres
  case next y st =>
    split at hres
    · rename_i hst
      subst hst
      cases hres
      cases hL with
      | nxtO hi hb hm => exact op_nxtO hop h hi hb hm (hC _ (by simp [ROp.cops]))
      | nxtS hi hk hb hm => exact op_nxtS hop h hi hk hb hm (hC _ (by simp [ROp.cops]))
    · cases hres
  case entry y =>
    cases hres
    cases hL with | ent hi hj hb hm => exact op_ent hop h hi hj hb hm (hC _ (by simp [ROp.cops]))
  case makeSlice t l c =>
    split at hres
    · rename_i e hU
      split at hres
      · rename_i i hi
        split at hres
        · rename_i z hz
          split at hres
          · rename_i hc
            cases hres
            cases hL with | mksl hb hl hcc hnm hbytes hm => exact op_mksl hop hU hi hz hc.1 hc.2.1 hc.2.2 hb hl hcc hnm hbytes hm h
          · cases hres
        · cases hres
      · cases hres
    · cases hres
  case slice t y lo hi mx =>
    cases mx with
    | some q => simp at hres
    | none =>
      simp only at hres
      split at hres
      · rename_i e hU
        split at hres
        · rename_i i hI
          cases hres
          cases hL with | cut ho hlo hhi => exact op_cut hop hU hI h ho hlo hhi (hL' _ (by simp [ROp.lops]))
        · cases hres
      · rename_i hU
        cases hres
        cases hL with | cutS hy h1 h2 hlo hhi => exact op_cutS hop hU h hy h1 h2 hlo hhi
      · rename_i n e hU
        split at hres
        · rename_i i hI
          split at hres
          · rename_i hc
            obtain ⟨hc1, hc2⟩ := hc
            cases lo with
            | some q => simp at hc1
            | none =>
              cases hi with
              | some q => simp at hc2
              | none =>
                cases hres
                cases hL with | asl hx hb hl => exact op_asl hop hU hI h hx hb hl (hL' _ (by simp [ROp.lops]))
          · cases hres
        · cases hres
      · cases hres
  case fieldAddr t y f =>
    split at hres
    · rename_i fs hU
      split at hres
      · rename_i fd hf
        split at hres
        · rename_i i hI
          split at hres
          · rename_i hn
            cases hres
            cases hL with | faddr hl => exact op_faddr hop hU hf hI hn h hl (hL' _ (by simp [ROp.lops]))
          · cases hres
        · cases hres
      · cases hres
    · cases hres
  case field t y f =>
    split at hres
    · rename_i fs hU
      split at hres
      · rename_i fd hf
        split at hres
        · rename_i d i hd hI
          split at hres
          · rename_i h1
            cases hres
            cases hL with | fld hy hl => exact op_fld hop hU hf hd hI h1 h hy hl
          · cases hres
        · cases hres
      · cases hres
    · cases hres
  case indexAddr t y z =>
    split at hres
    · rename_i e hU
      split at hres
      · rename_i i hI
        split at hres
        · rename_i h0
          cases hres
          cases hL with | iaddr hi ho => exact op_iaddr hop hU hI h0 h hi ho (hL' _ (by simp [ROp.lops]))
        · cases hres
      · cases hres
    · rename_i len e hU
      split at hres
      · rename_i i hI
        cases hres
        cases hL with | iaddrA hi hl ho => exact op_iaddrA hop hU hI h hi hl ho (hL' _ (by simp [ROp.lops]))
      · cases hres
    · cases hres
  case index t y z =>
    split at hres
    · rename_i len e hU
      split at hres
      · rename_i d i hd hI
        split at hres
        · rename_i h1
          cases hres
          cases hL with | idx hi hy ho hl => exact op_idx hop hU hd hI h1 h hi hy ho hl
        · cases hres
      · cases hres
    · rename_i hU
      cases hres
      cases hL with | idxS hi hy ho => exact op_idxS hop hU h hi hy ho
    · cases hres
  case lookup t m k ok =>
    split at hres
    · rename_i kt et hU
      split at hres
      · rename_i d i hK hE
        split at hres
        · rename_i z hz
          split at hres
          · rename_i hkd
            cases hres
            cases hL with | look hm hkf hks => exact op_look hop hU hK hkd hE hz h hm hkf hks (hC _ (by simp [ROp.cops]))
          · cases hres
        · cases hres
      · cases hres
    · cases hres
  case mapUpdate t m k v =>
    split at hres
    · rename_i kt et hU
      split at hres
      · rename_i d hK
        split at hres
        · rename_i hkd
          cases hres
          cases hL with | mapup hm hb hkf hks => exact op_mapup (.inl hop) hU hK hkd h hm hb hkf hks (hC _ (by simp [ROp.cops]))
        · cases hres
      · cases hres
    · cases hres
  case insert t m k v =>
    split at hres
    · rename_i kt et hU
      split at hres
      · rename_i d hK
        split at hres
        · rename_i hkd
          cases hres
          cases hL with | mapup hm hb hkf hks => exact op_mapup (.inr hop) hU hK hkd h hm hb hkf hks (hC _ (by simp [ROp.cops]))
        · cases hres
      · cases hres
    · cases hres
  case extract y i =>
    cases hres
    cases hL with | ext hy hi => exact op_ext hop h hy hi
  case call c => exact call_good hop hres hL h hC hL'
  all_goals cases hres

end
end Go.Abs
