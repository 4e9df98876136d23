/-
  The engine's words: symbolic values, states, nodes, trees; a program that runs a Go function's code over symbolic states and gives a tree; what a tree says.
-/
import Derived.WalkKit
import Derived.Defers
import Derived.Recover
namespace Go.Vc
open Go
/-- An atom: one cell's value. -/
inductive At where
  | junk
  | c (v : Value)
  | v (i : Nat)
  | p (b o : Nat)
  | pd (b base stride i : Nat)
  | sl (b off len cap : Nat)
  deriving Inhabited
/-- A symbolic value: one atom, an aggregate of atoms, a tuple. -/
inductive SV where
  | x (a : At)
  | l (as : List At)
  | t (ss : List (List At × Bool))
  deriving Inhabited
structure Slot where
  s : SV
  g : List (At × Bool)
  deriving Inhabited
inductive Cont where
  | en (l : List At)
  | wh (i : Nat)
  deriving Inhabited
structure Blk where
  cont : Cont
  n : Nat
  ty : TypeId
  own : Bool
  deriving Inhabited
/-- What is known of memory that is not tracked: it is as in the world of the node s, but for these blocks, which have been written to since. -/
structure Sy where
  live : Bool
  s : Nat
  ow : List Nat
  deriving Inhabited
structure St where
  slots : List Slot
  blocks : List (Option Blk)
  gl : List (Nat × Nat)
  ne : Nat
  sy : Sy
  deriving Inhabited
structure Pos where
  base : Nat
  stride : Nat
  idx : Option Nat
  deriving Inhabited
inductive Nd where
  | bin (op : BinOp) (t : TypeId) (cx cy : Bool) (x y : SV)
  | un (op : UnOp) (x : SV)
  | conv (s d : TypeId) (x : SV)
  | ext (x : SV) (i : Nat)
  | iad (t : TypeId) (x i : SV)
  | fad (t : TypeId) (x : SV) (f : Nat)
  | fld (t : TypeId) (x : SV) (f : Nat)
  | idx (t : TypeId) (x i : SV)
  | slc (t : TypeId) (x : SV) (lo hi mx : Option SV)
  | bld (t : TypeId) (parts : List (Nat × SV))
  | len (t : TypeId) (x : SV)
  | pick (c a b : SV)
  | gen (op : Op) (ty : TypeId) (args : List (Nat × SV))
  | sel (c : Cont) (p : Pos) (m : Nat) (agg : Bool)
  | upd (c : Cont) (p : Pos) (m : Nat) (val : SV)
  | asAgg (n : Nat) (x : SV)
  | plain (x : At)
  | ix (len : Nat) (x : SV)
  | loadU (t : TypeId) (x : SV) (y : Sy)
  | call (f : Nat) (args : List SV)
  | eff (op : Op) (ty : TypeId) (args : List (Nat × SV)) (md : Bool) (y : Sy) (bl : List (Nat × Blk))
  | callW (f : Nat) (args : List SV) (md : Bool) (y : Sy) (bl : List (Nat × Blk))
  | callV (x : SV) (args : List SV) (md : Bool) (y : Sy) (bl : List (Nat × Blk))
  | callI (x : SV) (m : String) (args : List SV)
  | callJ (x : SV) (m : String) (args : List SV) (md : Bool) (y : Sy) (bl : List (Nat × Blk))
  | dfr (x : SV) (args : List SV)
  | guard (g : List (At × Bool)) (n : Nd)
  deriving Inhabited
inductive T where
  | ret (s : SV) (y : Sy) (bl : List (Nat × Blk))
  | again (d : Nat) (vs : List At) (y : Sy) (bl : List (Nat × Blk))
  | nd (n : Nd) (k : T)
  | newb (s : Nat) (k : T)
  | cond (c : At) (a b : T)
  | both (a b : T)
  | loop (d : Nat) (vs : List At) (nv : Nat) (y : Sy) (bl : List (Nat × Blk)) (body : T)
  | fail (why : Nat)
  deriving Inhabited
inductive Ex where
  | normal | exit (id : Nat) | ret
  deriving Inhabited
/-- What the engine is told of a function: loops that are not unrolled: the first region's id, the slots and blocks that the round may change; which callees go by contract; how often a loop is unrolled at most. -/
structure Ann where
  loops : List (Nat × List Nat × List Nat)
  calls : List Nat
  unroll : Nat
  callsW : List (Nat × Bool) := []
  whole : List Nat := []
  dyn : Option Bool := none
  loose : List Nat := []
  lits : List Nat := []
/-! ### denotation -/
abbrev Val := Value × World
abbrev Env := Nat → Val
def upd {α : Type} (f : Nat → α) (i : Nat) (v : α) : Nat → α := fun j => if j = i then v else f j
def updl {α : Type} (f : Nat → α) (i : Nat) : List α → (Nat → α)
  | [] => f
  | v :: vs => updl (upd f i v) (i + 1) vs
def intNat : Value → Nat | .int _ n => n.toNat | _ => 0
def natOf (v : Val) : Nat := intNat v.1
def At.den (env : Env) (β : Nat → Nat) : At → Value
  | .junk => undef
  | .c u => u
  | .v i => (env i).1
  | .p b o => .pointer (some ⟨β b, o, none⟩)
  | .pd b base stride i => .pointer (some ⟨β b, base + natOf (env i) * stride, none⟩)
  | .sl b off len cap => .slice (some ⟨β b, off, none⟩) len cap
def comp (env : Env) (β : Nat → Nat) : List At × Bool → Value
  | (l, true) => .agg (l.map (At.den env β)).toArray
  | (a :: _, false) => a.den env β
  | ([], false) => undef
def SV.den (env : Env) (β : Nat → Nat) : SV → Value
  | .x a => a.den env β
  | .l as => .agg (as.map (At.den env β)).toArray
  | .t ss => .tuple (ss.map (comp env β)).toArray
def aggArr : Value → Array Value | .agg cs => cs | _ => #[]
def Cont.den (env : Env) (β : Nat → Nat) : Cont → Array Value
  | .en l => (l.map (At.den env β)).toArray
  | .wh i => aggArr (env i).1
def Pos.den (env : Env) (p : Pos) : Nat :=
  match p.idx with
  | none => p.base
  | some i => p.base + natOf (env i) * p.stride
/-- The cells of arr from pos on, overwritten. -/
def splice (arr : Array Value) (pos : Nat) (vs : List Value) : Array Value := (arr.toList.take pos ++ vs ++ arr.toList.drop (pos + vs.length)).toArray
def argsFn (l : List (Nat × Value)) : Operand → Value
  | .tmp t => ((l.find? (·.1 == t)).map (·.2)).getD undef
  | .const v => v
  | .global g => .pointer (some ⟨g, 0, none⟩)
  | .func f => .func (.func f) #[] #[]
/-- In whatever world: it yields this, and leaves the world as it is. -/
def Runs (P : Program) (s : Sem Value) (v : Value) : Prop := ∀ w, s.run P w = .ok v w
/-- What an effect yields: a store yields nothing. -/
def mute : Op → Bool | .store .. | .insert .. | .mapUpdate .. => true | _ => false
def effOut (op : Op) (v : Value) : Next := if mute op then .skip else .value v
def RunsN (P : Program) (s : Sem Next) (v : Value) : Prop := ∀ w, s.run P w = .ok (.value v) w
def constOp (b : Bool) : Operand := if b then .const undef else .tmp 0
def binSem (op : BinOp) (t : TypeId) (cx cy : Bool) (x y : Value) : Sem Value := do
  eqGuard op t (constOp cx) (constOp cy) x y
  binOp op t x y
/-- Contracts that the callees go by. -/
structure Spec where
  pre : FuncId → List Value → Prop
  post : FuncId → List Value → Value → Prop
  preW : FuncId → List Value → World → Prop
  postW : FuncId → List Value → World → Value → World → Prop
  modW : FuncId → List Value → World → Nat → Prop
structure Ctx where
  P : Program
  S : Spec
  G : World → Prop
  w0 : World
  mine : Nat → Prop
  R : Value → World → Prop
def condsV (g : List (Value × Bool)) : Prop := ∀ x ∈ g, x.1 = .bool x.2
def conds (env : Env) (β : Nat → Nat) (g : List (At × Bool)) : Prop := condsV (g.map fun x => (x.1.den env β, x.2))
theorem conds_iff {env : Env} {β : Nat → Nat} {g : List (At × Bool)} : conds env β g ↔ ∀ x ∈ g, x.1.den env β = .bool x.2 := by
  unfold conds condsV
  constructor
  · intro h x hx; exact h (x.1.den env β, x.2) (List.mem_map.2 ⟨x, hx, rfl⟩)
  · intro h x hx
    obtain ⟨y, hy, rfl⟩ := List.mem_map.1 hx
    exact h y hy
/-- One block's content lies there. -/
def Holds (w : World) (k : Nat) (b : Blk) (env : Env) (β : Nat → Nat) : Prop :=
  if b.own then w.heap[k]? = some (.cells (b.cont.den env β) b.ty (0, 0))
  else ∀ i v, (b.cont.den env β)[i]? = some v → w.cell? ⟨k, i, none⟩ = some v
def Cont.ok (env : Env) : Cont → Prop
  | .en _ => True
  | .wh i => (env i).1 = .agg (aggArr (env i).1)
/-- A tracked block, as a user meets it. -/
structure KB where
  b : Nat
  own : Bool
  ty : TypeId
  arr : Array Value
/-- What is known of a world: untracked memory is as it was in the world u, but for what has been written to since; the tracked blocks. -/
structure KnownV (X : Ctx) (u : World) (ow : List Nat) (bl : List KB) (w : World) : Prop where
  past : ∀ b, b < u.heap.size → b ∉ ow → w.heap[b]? = u.heap[b]?
  size : u.heap.size ≤ w.heap.size
  keep : ∀ b, ¬ X.mine b → w.heap[b]? = X.w0.heap[b]?
  sz0 : X.w0.heap.size ≤ w.heap.size
  os : w.os = X.w0.os
  tape : w.tape = X.w0.tape
  output : w.output = X.w0.output
  blk : ∀ kb ∈ bl, (if kb.own then w.heap[kb.b]? = some (.cells kb.arr kb.ty (0, 0)) else ∀ (i : Nat) (v : Value), kb.arr[i]? = some v → w.cell? ⟨kb.b, i, none⟩ = some v) ∧ kb.b < w.heap.size ∧ (kb.own = true → X.mine kb.b)
def toKB (env : Env) (β : Nat → Nat) (kb : Nat × Blk) : KB := ⟨β kb.1, kb.2.own, kb.2.ty, kb.2.cont.den env β⟩
def Known (X : Ctx) (env : Env) (β : Nat → Nat) (y : Sy) (bl : List (Nat × Blk)) (w : World) : Prop := KnownV X (env y.s).2 (y.ow.map β) (bl.map (toKB env β)) w
/-- What an effect leaves as it was. -/
structure Keeps (X : Ctx) (md : Bool) (tr : List Nat) (w w' : World) : Prop where
  os : w'.os = w.os
  tape : w'.tape = w.tape
  output : w'.output = w.output
  size : w.heap.size ≤ w'.heap.size
  block : ∀ b, b < w.heap.size → (md = true → ¬ X.mine b ∨ b ∈ tr) → w'.heap[b]? = w.heap[b]?
/-- A deferred call that does nothing where its function returns. -/
def NoOp (P : Program) (d : Deferred) : Prop := ∃ fv cap f args, d.target = .fn fv cap ∧ (∀ w, (invoke d.target d.args).run P w = .ok (.enter f args) w) ∧
  ∀ w, CallsD P f args .returning w fun e u' w' => (∃ v, e = .returned v) ∧ u' = .returning ∧ w' = w
/-- The method of this name of an interface value, with these arguments, is that function with those. -/
def Meth (P : Program) (x : Value) (m : String) (args : List Value) (f : Nat) (as : List Value) : Prop := ∀ w, (invoke (.fn (.method m) #[]) (#[x] ++ args.toArray)).run P w = .ok (.enter f as.toArray) w
theorem Meth.unique {P : Program} {x : Value} {m : String} {args as as' : List Value} {f f' : Nat} (h : Meth P x m args f as) (k : Meth P x m args f' as') : f' = f ∧ as' = as := by
  have h1 := h default
  rw [k default] at h1
  simp only [Result.ok.injEq, Next.enter.injEq, and_true] at h1
  exact ⟨h1.1, by simpa using congrArg Array.toList h1.2⟩
/-- The node whose world an effect's node begins with. -/
def Nd.sync? : Nd → Option Nat
  | .eff _ _ _ _ y _ => some y.s
  | .callW _ _ _ y _ => some y.s
  | .callV _ _ _ y _ => some y.s
  | .callJ _ _ _ _ y _ => some y.s
  | _ => none
/-- An effect that is not carried out leaves the world as it is. -/
def offW (env : Env) (v : Val) : Option Nat → Prop
  | none => True
  | some s => v.2 = (env s).2
def Nd.den (X : Ctx) (env : Env) (β : Nat → Nat) (v : Val) : Nd → Prop
  | .bin op t cx cy x y => Runs X.P (binSem op t cx cy (x.den env β) (y.den env β)) v.1
  | .un op x => Runs X.P (Op.unary op (x.den env β)) v.1
  | .conv s d x => Runs X.P (convert s d (x.den env β)) v.1
  | .ext x i => Runs X.P (Instr.extract (x.den env β) i) v.1
  | .iad t x i => Runs X.P (Instr.indexAt t (x.den env β) (i.den env β)) v.1
  | .fad t x f => Runs X.P (Instr.fieldAt t (x.den env β) f) v.1
  | .fld t x f => Runs X.P (Instr.field t (x.den env β) f) v.1
  | .idx t x i => Runs X.P (Instr.index t (x.den env β) (i.den env β)) v.1
  | .slc t x lo hi mx => Runs X.P (Instr.sliceAt t (x.den env β) (lo.map (·.den env β)) (hi.map (·.den env β)) (mx.map (·.den env β))) v.1
  | .bld t parts => Runs X.P (Instr.build t (parts.map fun p => (p.1, p.2.den env β)).toArray) v.1
  | .len t x => Runs X.P (Builtin.len_ #[t] 3 #[x.den env β]) v.1
  | .pick c a b => (c.den env β = .bool true → v.1 = a.den env β) ∧ (c.den env β = .bool false → v.1 = b.den env β) ∧ ∃ t, c.den env β = .bool t
  | .gen op ty args => RunsN X.P (execOp (argsFn (args.map fun p => (p.1, p.2.den env β))) ⟨none, op, ty, "", #[], none⟩) v.1
  | .sel c p m agg => p.den env + m ≤ (c.den env β).size ∧ v.1 = (if agg then .agg ((c.den env β).extract (p.den env) (p.den env + m)) else (c.den env β).getD (p.den env) undef)
  | .upd c p m val => p.den env + m ≤ (c.den env β).size ∧ (val.den env β).cells.size = m ∧ (val.den env β).cells.all (·.oneCell') = true ∧ v.1 = .agg (splice (c.den env β) (p.den env) (val.den env β).cells.toList)
  | .asAgg n x => v.1 = x.den env β ∧ ∃ arr : Array Value, x.den env β = .agg arr ∧ arr.size = n ∧ arr.all (·.oneCell') = true
  | .plain x => v.1 = x.den env β ∧ (x.den env β).oneCell' = true
  | .ix m x => v.1 = x.den env β ∧ ∃ k n, x.den env β = .int k n ∧ 0 ≤ n ∧ n < (m : Int)
  | .loadU t x y => ∀ w, Known X env β y [] w → (Instr.loadAt t (x.den env β)).run X.P w = .ok v.1 w
  | .call f args => X.S.post f (args.map (·.den env β)) v.1
  | .callI x m args => ∃ f as, Meth X.P (x.den env β) m (args.map (·.den env β)) f as ∧ X.S.post f as v.1
  | .dfr _ _ => True
  | .eff op ty args _ y bl => ∃ w, Known X env β y bl w ∧ (execOp (argsFn (args.map fun p => (p.1, p.2.den env β))) ⟨none, op, ty, "", #[], none⟩).run X.P w = .ok (effOut op v.1) v.2
  | .callW f args _ y bl => ∃ w, Known X env β y bl w ∧ X.S.postW f (args.map (·.den env β)) w v.1 v.2
  | .callJ x m args _ y bl => ∃ w f as, Known X env β y bl w ∧ Meth X.P (x.den env β) m (args.map (·.den env β)) f as ∧ X.S.postW f as w v.1 v.2
  | .callV x args _ y bl => ∃ w f p q, Known X env β y bl w ∧ x.den env β = .func (.func f) p q ∧ X.S.postW f (p.toList ++ args.map (·.den env β) ++ q.toList) w v.1 v.2
  | .guard g n => (conds env β g → n.den X env β v) ∧ (¬ conds env β g → offW env v n.sync?)
/-- What must hold that there be a value. -/
def Nd.pre (X : Ctx) (env : Env) (β : Nat → Nat) : Nd → Prop
  | .call f args => X.S.pre f (args.map (·.den env β))
  | .callI x m args => ∃ f as, Meth X.P (x.den env β) m (args.map (·.den env β)) f as ∧ X.S.pre f as
  | .dfr x args => ∃ d, (∀ w, (Deferred.ofValue (x.den env β) (args.map (·.den env β)).toArray).run X.P w = .ok d w) ∧ NoOp X.P d
  | .eff op ty args md y bl => ∀ w, Known X env β y bl w → ∃ v w', (execOp (argsFn (args.map fun p => (p.1, p.2.den env β))) ⟨none, op, ty, "", #[], none⟩).run X.P w = .ok (effOut op v) w' ∧ Keeps X md (bl.map fun kb => β kb.1) w w'
  | .callW f args md y bl => ∀ w, Known X env β y bl w → X.S.preW f (args.map (·.den env β)) w ∧ ∀ b, X.S.modW f (args.map (·.den env β)) w b → md = true ∧ X.mine b ∧ b ∉ bl.map fun kb => β kb.1
  | .callJ x m args md y bl => ∃ f as, Meth X.P (x.den env β) m (args.map (·.den env β)) f as ∧
      ∀ w, Known X env β y bl w → X.S.preW f as w ∧ ∀ b, X.S.modW f as w b → md = true ∧ X.mine b ∧ b ∉ bl.map fun kb => β kb.1
  | .callV x args md y bl => ∃ f p q, x.den env β = .func (.func f) p q ∧ (∀ args w, (callFunc f args).run X.P w = .ok (.enter f args) w) ∧
      ∀ w, Known X env β y bl w → X.S.preW f (p.toList ++ args.map (·.den env β) ++ q.toList) w ∧ ∀ b, X.S.modW f (p.toList ++ args.map (·.den env β) ++ q.toList) w b → md = true ∧ X.mine b ∧ b ∉ bl.map fun kb => β kb.1
  | .guard g n => conds env β g → n.pre X env β
  | n => ∃ v, n.den X env β v
def allV : Nat → (List Value → Prop) → Prop
  | 0, f => f []
  | n + 1, f => ∀ v, allV n fun l => f (v :: l)
/-- Values, of no world. -/
def vals (X : Ctx) (us : List Value) : List Val := us.map fun u => (u, X.w0)
def T.den (X : Ctx) : T → Env → Nat → (Nat → Nat) → Nat → (Nat → List Value → World → Prop) → Prop
  | .ret s y bl, env, _, β, _, _ => ∀ w, Known X env β y bl w → X.R (s.den env β) w
  | .again d vs y bl, env, _, β, _, ls => ∀ w, Known X env β y bl w → ls d (vs.map (·.den env β)) w
  | .nd n k, env, ne, β, nb, ls => n.pre X env β ∧ ∀ v, n.den X env β v → k.den X (upd env ne v) (ne + 1) β nb ls
  | .newb s k, env, ne, β, nb, ls => ∀ b, (env s).2.heap.size ≤ b → k.den X env ne (upd β nb b) (nb + 1) ls
  | .cond c a b, env, ne, β, nb, ls => (∃ t, c.den env β = .bool t) ∧ (c.den env β = .bool true → a.den X env ne β nb ls) ∧ (c.den env β = .bool false → b.den X env ne β nb ls)
  | .both a b, env, ne, β, nb, ls => a.den X env ne β nb ls ∧ b.den X env ne β nb ls
  | .loop d vs nv y bl body, env, ne, β, nb, ls => ∃ (I : List Value → World → Prop) (μ : List Value → World → Nat), (∀ w, Known X env β y bl w → I (vs.map (·.den env β)) w) ∧
      allV nv fun us => ∀ w, I us w → body.den X (upd (updl env ne (vals X us)) (ne + nv) (undef, w)) (ne + nv + 1) β nb (upd ls d fun us' w' => I us' w' ∧ μ us' w' < μ us w)
  | .fail _, _, _, _, _, _ => False
/-! ### execution -/
section
variable (P : Program)
def sz (t : TypeId) : Option Nat := (P.info? t).map (·.size)
def agg? (t : TypeId) : Option Bool :=
  match P.underlying t with
  | some (.struct _) | some (.array ..) => some true
  | some _ => some false
  | none => none
def okAt : At → Bool | .junk => false | _ => true
def okSV : SV → Bool
  | .x a => okAt a
  | .l as => as.all okAt
  | .t ss => ss.all fun p => p.1.all okAt && (p.2 || p.1.length == 1)
def condSame : At → At → Bool
  | .v i, .v j => i == j
  | _, _ => false
/-- The conditions under which a slot is filled are among those at hand. -/
def gIn (have_ want : List (At × Bool)) : Bool := want.all fun x => have_.any fun y => condSame x.1 y.1 && x.2 == y.2
def normC : Value → SV
  | .agg cs => .l (cs.toList.map .c)
  | v => .x (.c v)
def evalO (σ : St) (g : List (At × Bool)) : Operand → Option SV
  | .tmp t => match σ.slots[t]? with
    | some sl => if okSV sl.s && gIn g sl.g then some sl.s else none
    | none => none
  | .const v => some (normC v)
  | .global n => match σ.gl.find? (·.1 == n) with
    | some (_, b) => some (.x (.p b 0))
    | none => some (.x (.c (.pointer (some ⟨n, 0, none⟩))))
  | .func f => some (.x (.c (.func (.func f) #[] #[])))
inductive Fin where
  | val (s : SV)
  | newb (b : Blk)
  | newsl (b : Blk) (len : Nat)
  | setb (k : Nat) (b : Blk)
  | eff (s : SV) (md : Bool)
structure Res where
  nds : List Nd
  fin : Fin
/-- The blocks that are known. -/
def knownBl : List (Option Blk) → Nat → List (Nat × Blk)
  | [], _ => []
  | none :: r, k => knownBl r (k + 1)
  | some b :: r, k => (k, b) :: knownBl r (k + 1)
def blk? (σ : St) (k : Nat) : Option Blk := (σ.blocks[k]?).bind id
/-- The cells of a value of a type with n cells, if they are plain to see. -/
def cellsOf (ag : Bool) : SV → Option (List At)
  | .l as => if ag then some as else none
  | .x a => if ag then none else some [a]
  | .t _ => none
def splA (l : List At) (o : Nat) (xs : List At) : List At := l.take o ++ xs ++ l.drop (o + xs.length)
def selsFrom (e : Nat) : Nat → Nat → List Nd
  | _, 0 => []
  | k, n + 1 => .sel (.wh e) ⟨k, 0, none⟩ 1 false :: selsFrom e (k + 1) n
def varsFrom : Nat → Nat → List At
  | _, 0 => []
  | k, n + 1 => .v k :: varsFrom (k + 1) n
def plainC : At → Bool | .c u => u.oneCell' | .junk => false | _ => true
def plainAts (ne : Nat) : List At → List Nd × List At
  | [] => ([], [])
  | .v i :: r => let (ns, as) := plainAts (ne + 1) r; (.plain (.v i) :: ns, .v ne :: as)
  | a :: r => let (ns, as) := plainAts ne r; (ns, a :: as)
/-- A value's cells as atoms, with the nodes that lay them open. -/
def expand (ne n : Nat) (ag : Bool) (s : SV) : Option (List Nd × List At) :=
  match s with
  | .l as => if ag && as.length == n then some ([], as) else none
  | .x a => if ag then (if n ≤ 16 then some (.asAgg n (.x a) :: selsFrom ne 0 n, varsFrom (ne + 1) n) else none)
    else if n == 1 && plainC a then some (plainAts ne [a]) else none
  | .t _ => none
def stepLoad (σ : St) (t : TypeId) (x : SV) : Option Res := do
  let n ← sz P t
  let ag ← agg? P t
  match x with
  | .x (.p b o) =>
    let bl ← blk? σ b
    match bl.cont with
    | .en l =>
      if o + n ≤ l.length then
        if ag then some ⟨[], .val (.l ((l.drop o).take n))⟩
        else if n = 1 then match l[o]? with
          | some a => if okAt a then some ⟨[], .val (.x a)⟩ else none
          | none => none
        else none
      else none
    | .wh i =>
      if ag && o == 0 && n == bl.n then some ⟨[], .val (.x (.v i))⟩
      else if ag || n == 1 then some ⟨[.sel bl.cont ⟨o, 0, none⟩ n ag], .val (.x (.v σ.ne))⟩ else none
  | .x (.pd b base stride i) =>
    let bl ← blk? σ b
    if ag || n == 1 then some ⟨[.sel bl.cont ⟨base, stride, some i⟩ n ag], .val (.x (.v σ.ne))⟩ else none
  | .x (.sl ..) | .l _ | .t _ => none
  | x => if σ.sy.live then some ⟨[.loadU t x σ.sy], .val (.x (.v σ.ne))⟩ else none
def stepStore (σ : St) (t : TypeId) (x val : SV) : Option Res := do
  let n ← sz P t
  let ag ← agg? P t
  match x with
  | .x (.p b o) =>
    let bl ← blk? σ b
    if !bl.own then none else
    match bl.cont, cellsOf ag val with
    | .en l, some xs =>
      let (ns, as) := plainAts σ.ne xs
      if xs.length = n && decide (o + n ≤ l.length) && xs.all plainC then some ⟨ns, .setb b { bl with cont := .en (splA l o as) }⟩ else none
    | .en l, none =>
      if ag && decide (o + n ≤ l.length) && decide (n ≤ 16) then some ⟨.asAgg n val :: selsFrom σ.ne 0 n, .setb b { bl with cont := .en (splA l o (varsFrom (σ.ne + 1) n)) }⟩
      else if ag && o == 0 && n == bl.n then some ⟨[.asAgg n val], .setb b { bl with cont := .wh σ.ne }⟩
      else if ag then some ⟨[.upd bl.cont ⟨o, 0, none⟩ n val], .setb b { bl with cont := .wh σ.ne }⟩ else none
    | .wh _, _ =>
      if ag && o == 0 && n == bl.n then some ⟨[.asAgg n val], .setb b { bl with cont := .wh σ.ne }⟩
      else if ag || n == 1 then some ⟨[.upd bl.cont ⟨o, 0, none⟩ n val], .setb b { bl with cont := .wh σ.ne }⟩ else none
  | .x (.pd b base stride i) =>
    let bl ← blk? σ b
    if !bl.own then none else
    if ag || n == 1 then some ⟨[.upd bl.cont ⟨base, stride, some i⟩ n val], .setb b { bl with cont := .wh σ.ne }⟩ else none
  | _ => none
def constNat? : SV → Option Nat
  | .x (.c (.int _ n)) => if 0 ≤ n then some n.toNat else none
  | _ => none
def stepIndexAddr (σ : St) (t : TypeId) (x i : SV) : Option Res := do
  match P.underlying t, x with
  | some (.array len elem), .x (.p b o) =>
    let s ← sz P elem
    match constNat? i with
    | some k => if k < len then some ⟨[], .val (.x (.p b (o + k * s)))⟩ else none
    | none => match i with
      | .x (.v _) => some ⟨[.ix len i], .val (.x (.pd b o s σ.ne))⟩
      | _ => none
  | some (.slice elem), .x (.sl b off len _) =>
    let s ← sz P elem
    match constNat? i with
    | some k => if k < len then some ⟨[], .val (.x (.p b (off + k * s)))⟩ else none
    | none => match i with
      | .x (.v _) => some ⟨[.ix len i], .val (.x (.pd b off s σ.ne))⟩
      | _ => none
  | _, .x (.v _) | _, .x (.c _) => some ⟨[.iad t x i], .val (.x (.v σ.ne))⟩
  | _, _ => none
def stepFieldAddr (σ : St) (t : TypeId) (x : SV) (f : Nat) : Option Res := do
  match x with
  | .x (.p b o) =>
    let some (.struct fs) := P.underlying t | none
    let fd ← fs[f]?
    let s ← sz P fd.type
    if s = 0 then none else some ⟨[], .val (.x (.p b (o + fd.offset)))⟩
  | .x (.pd b base stride i) =>
    let some (.struct fs) := P.underlying t | none
    let fd ← fs[f]?
    let s ← sz P fd.type
    if s = 0 then none else some ⟨[], .val (.x (.pd b (base + fd.offset) stride i))⟩
  | .x (.v _) | .x (.c _) => some ⟨[.fad t x f], .val (.x (.v σ.ne))⟩
  | _ => none
def foldBin (op : BinOp) (x y : SV) : Option Value :=
  match x, y with
  | .x (.c (.int .i64 a)), .x (.c (.int .i64 b)) =>
    match op with
    | .add => some (.int .i64 (IntKind.i64.wrap (a + b)))
    | .sub => some (.int .i64 (IntKind.i64.wrap (a - b)))
    | .mul => some (.int .i64 (IntKind.i64.wrap (a * b)))
    | .lss => some (.bool (a < b))
    | .leq => some (.bool (a ≤ b))
    | .gtr => some (.bool (a > b))
    | .geq => some (.bool (a ≥ b))
    | .eql => some (.bool (a == b))
    | .neq => some (.bool (a != b))
    | .quo => if b = 0 then none else some (.int .i64 (IntKind.i64.wrap (a.tdiv b)))
    | .rem => if b = 0 then none else some (.int .i64 (a.tmod b))
    | _ => none
  | _, _ => none
def isC : Operand → Bool | .const _ => true | _ => false
def one (σ : St) (n : Nd) : Option Res := some ⟨[n], .val (.x (.v σ.ne))⟩
def zeroAts (t : TypeId) : Option (List At) :=
  match (P.info? t).bind (·.zero) with
  | some z => some (z.cells.toList.map .c)
  | none => none
/-- Where a part of a struct or an array lies: its offset, its cells, whether it is an aggregate. -/
def placeOf (t : TypeId) (i : Nat) : Option (Nat × Nat × Bool) :=
  match P.underlying t with
  | some (.struct fs) => do
    let f ← fs[i]?
    some (f.offset, ← sz P f.type, ← agg? P f.type)
  | some (.array _ e) => do
    let s ← sz P e
    some (i * s, s, ← agg? P e)
  | _ => none
def placesOk (t : TypeId) : Bool :=
  match P.underlying t with
  | some (.struct fs) => fs.toList.all fun f => (sz P f.type).isSome
  | some (.array _ e) => (sz P e).isSome
  | _ => false
def buildParts (t : TypeId) (ne : Nat) : List (Nat × SV) → List At → Option (List Nd × List At)
  | [], z => some ([], z)
  | (i, s) :: r, z => do
    let (off, n, ag) ← placeOf P t i
    let (ns, l) ← expand ne n ag s
    if l.length = n && decide (off + n ≤ z.length) then
      let (ms, z') ← buildParts t (ne + ns.length) r (splA z off l)
      some (ns ++ ms, z')
    else none
def partOf (σ : St) (g : List (At × Bool)) (p : Nat × Operand) : Option (Nat × SV) :=
  match evalO σ g p.2 with
  | some s => some (p.1, s)
  | none => none
def tmpArgs (ev : Operand → Option SV) : List Operand → Option (List (Nat × SV))
  | [] => some []
  | .tmp t :: r => match ev (.tmp t), tmpArgs ev r with
    | some s, some l => some ((t, s) :: l)
    | _, _ => none
  | _ :: r => tmpArgs ev r
/-- An effect: its node yields the value and the world behind it. -/
def effOp (σ : St) (g : List (At × Bool)) (o : Oper) (md : Bool) : Option Res := do
  if σ.sy.live then
    let l ← tmpArgs (evalO σ g) o.op.operands.toList
    some ⟨[.eff o.op o.type l md σ.sy (knownBl σ.blocks 0)], .eff (.x (.v σ.ne)) md⟩
  else none
/-- A store to memory that is not tracked. -/
def stoOp (σ : St) (g : List (At × Bool)) (o : Oper) : Option Res := do
  if σ.sy.live then
    let l ← tmpArgs (evalO σ g) o.op.operands.toList
    some ⟨[.eff o.op o.type l true σ.sy (knownBl σ.blocks 0)], .eff (.x (.c undef)) true⟩
  else none
/-- Operations that only reckon with what they are given. -/
def genOk : Op → Bool
  | .call { callee := .builtin .min, .. } => true
  | .call { callee := .builtin .max, .. } => true
  | .call { callee := .builtin .cap, .. } => true
  | .makeInterface .. => true
  | .sliceToArrayPointer .. => true
  | .typeAssert .. => true
  | _ => false
def genOp (σ : St) (g : List (At × Bool)) (o : Oper) : Option Res := do
  let l ← tmpArgs (evalO σ g) o.op.operands.toList
  one σ (.gen o.op o.type l)
/-- A variable that is kept whole. -/
def wholeAt (A : Ann) (o : Oper) : Bool := match o.dst with | some d => A.whole.contains d | none => false
/-- A variable that is not tracked. -/
def looseAt (A : Ann) (o : Oper) : Bool := match o.dst with | some d => A.loose.contains d | none => false
/-- A list of constants that is a variable of its own. -/
def litAt (A : Ann) (o : Oper) : Bool := match o.dst with | some d => A.lits.contains d | none => false
def litOp (t : TypeId) (len : Nat) (parts : Array (Nat × Operand)) : Option Res :=
  match P.underlying t with
  | some (.slice e) => match P.info? e with
    | some ie => match ie.zero with
      | some z =>
        if parts.all (fun p => isC p.2) && decide (¬ len * ie.size > 2 ^ 24) && decide (¬ len * ie.size = 0) then
          match Instr.fill (fun i => some (i * ie.size, ie.size)) ((Array.range (len * ie.size)).map (z.cells[· % z.cells.size]!)) (parts.map fun (i, x) => (i, argsFn [] x)).toList with
          | some cells => some ⟨[], .newsl ⟨.en (cells.toList.map .c), cells.size, e, true⟩ len⟩
          | none => none
        else none
      | none => none
    | none => none
  | _ => none
def step (A : Ann) (σ : St) (g : List (At × Bool)) (o : Oper) : Option Res :=
  let ev := evalO σ g
  match o.op with
  | .move x | .assign x => do some ⟨[], .val (← ev x)⟩
  | .pick c a b => do
    let c' ← ev c
    match c' with
    | .x (.c (.bool t)) => do some ⟨[], .val (← ev (if t then a else b))⟩
    | .x (.v i) =>
      let s ← evalO σ (g ++ [(.v i, true)]) a
      let u ← evalO σ (g ++ [(.v i, false)]) b
      one σ (.pick c' s u)
    | _ => none
  | .alloc t => if looseAt A o then effOp σ g o false else do
    let z ← zeroAts P t
    if wholeAt A o then some ⟨[.asAgg z.length (.l z)], .newb ⟨.wh σ.ne, z.length, t, true⟩⟩ else
    some ⟨[], .newb ⟨.en z, z.length, t, true⟩⟩
  | .box t x => if looseAt A o then effOp σ g o false else do
    let s ← ev x
    let n ← sz P t
    let ag ← agg? P t
    match (if wholeAt A o then none else expand σ.ne n ag s) with
    | some (ns, l) => some ⟨ns, .newb ⟨.en l, n, t, true⟩⟩
    | none => if ag then some ⟨[.asAgg n s], .newb ⟨.wh σ.ne, n, t, true⟩⟩ else none
  | .build t parts => do
    if parts.size = 0 then
      let z ← zeroAts P t
      if agg? P t == some true && placesOk P t then some ⟨[], .val (.l z)⟩ else none
    else
      let ps ← parts.toList.mapM (partOf σ g)
      let z ← zeroAts P t
      match placesOk P t, buildParts P t σ.ne ps z with
      | true, some (ns, l) => some ⟨ns, .val (.l l)⟩
      | _, _ => one σ (.bld t ps)
  | .load t x => do stepLoad P σ t (← ev x)
  | .store t x y => do
    match ← ev x with
    | .x (.v _) => stoOp σ g o
    | s => stepStore P σ t s (← ev y)
  | .nilCheck x => do
    let s ← ev x
    match s, x with
    | .x (.p b o), _ => some ⟨[], .val (.x (.p b o))⟩
    | .x (.pd b o s i), _ => some ⟨[], .val (.x (.pd b o s i))⟩
    | s, .tmp t => one σ (.gen o.op o.type [(t, s)])
    | _, _ => none
  | .binOp op t x y _ => do
    let a ← ev x
    let b ← ev y
    match foldBin op a b with
    | some v => some ⟨[], .val (.x (.c v))⟩
    | none => one σ (.bin op t (isC x) (isC y) a b)
  | .unOp op _ x => do one σ (.un op (← ev x))
  | .convert s d x => if s == d then effOp σ g o true else do one σ (.conv s d (← ev x))
  | .extract x i => do
    let s ← ev x
    match s with
    | .t ss => match ss[i]? with
      | some (l, true) => some ⟨[], .val (.l l)⟩
      | some ([a], false) => some ⟨[], .val (.x a)⟩
      | _ => none
    | s => one σ (.ext s i)
  | .indexAddr t x i => do stepIndexAddr P σ t (← ev x) (← ev i)
  | .fieldAddr t x f => do stepFieldAddr P σ t (← ev x) f
  | .field t x f => do one σ (.fld t (← ev x) f)
  | .index t x i => do one σ (.idx t (← ev x) (← ev i))
  | .slice t x lo hi mx => do
    let s ← ev x
    let f : Option Operand → Option (Option SV) := fun | none => some none | some y => (ev y).map some
    one σ (.slc t s (← f lo) (← f hi) (← f mx))
  | .makeFunc _ first captured => do
    let l ← tmpArgs ev (first.toList ++ captured.toList)
    one σ (.gen o.op o.type l)
  | .buildSlice t len parts => if litAt A o then litOp P t len parts else effOp σ g o false
  | .makeSlice .. => effOp σ g o false
  | .makeMap .. => effOp σ g o false
  | .lookup .. => effOp σ g o false
  | .insert .. => stoOp σ g o
  | .call { callee := .value (.tmp t), args, argTypes := _ } => match A.dyn with
    | some md => do
      if σ.sy.live then
        let x ← ev (.tmp t)
        let l ← args.toList.mapM ev
        some ⟨[.callV x l md σ.sy (knownBl σ.blocks 0)], .eff (.x (.v σ.ne)) md⟩
      else none
    | none => none
  | .call { callee := .invoke recv name, args, argTypes := _ } => do
    let x ← ev recv
    let l ← args.toList.mapM ev
    match A.dyn with
    | none => one σ (.callI x name l)
    | some md => if σ.sy.live then some ⟨[.callJ x name l md σ.sy (knownBl σ.blocks 0)], .eff (.x (.v σ.ne)) md⟩ else none
  | .call { callee := .builtin .append, .. } => effOp σ g o true
  | .call { callee := .builtin .copy, .. } => effOp σ g o true
  | .call { callee := .builtin .clear, .. } => effOp σ g o true
  | .call { callee := .builtin .len, args, argTypes } => do
    let x ← args[0]?
    let t ← argTypes[0]?
    if args.size = 1 && argTypes.size = 1 && o.type == 3 then one σ (.len t (← ev x)) else none
  | .call { callee := .value (.func f), args, argTypes := _ } => do
    if A.calls.contains f then
      let l ← args.toList.mapM ev
      one σ (.call f l)
    else match A.callsW.find? (·.1 == f) with
    | some (_, md) =>
      if σ.sy.live then
        let l ← args.toList.mapM ev
        some ⟨[.callW f l md σ.sy (knownBl σ.blocks 0)], .eff (.x (.v σ.ne)) md⟩
      else none
    | none => match (P.funcs[f]?).bind (·.body) with
      | some _ => none
      | none => do
        let l ← tmpArgs ev args.toList
        one σ (.gen o.op o.type l)
  | op => if genOk op then genOp σ g o else none
end
/-! ### a region that draws its order: its head in whatever order, its tail in a row -/
def atE : At → List Nat | .v i => [i] | .pd _ _ _ i => [i] | _ => []
def atB : At → List Nat | .p b _ => [b] | .pd b _ _ _ => [b] | .sl b _ _ _ => [b] | _ => []
def svE : SV → List Nat
  | .x a => atE a | .l as => as.flatMap atE | .t ss => ss.flatMap fun p => p.1.flatMap atE
def svB : SV → List Nat
  | .x a => atB a | .l as => as.flatMap atB | .t ss => ss.flatMap fun p => p.1.flatMap atB
def contE : Cont → List Nat | .en l => l.flatMap atE | .wh i => [i]
def contB : Cont → List Nat | .en l => l.flatMap atB | .wh _ => []
def posE (p : Pos) : List Nat := p.idx.toList
def oE : Option SV → List Nat | some s => svE s | none => []
def oB : Option SV → List Nat | some s => svB s | none => []
def gE (g : List (At × Bool)) : List Nat := g.flatMap fun x => atE x.1
def gB (g : List (At × Bool)) : List Nat := g.flatMap fun x => atB x.1
def ndE : Nd → List Nat
  | .bin _ _ _ _ x y => svE x ++ svE y
  | .un _ x | .conv _ _ x | .ext x _ | .fad _ x _ | .fld _ x _ | .len _ x | .asAgg _ x | .ix _ x => svE x
  | .loadU _ x y => y.s :: svE x
  | .eff _ _ ps _ y bl => y.s :: (ps.flatMap (fun p => svE p.2) ++ bl.flatMap (fun kb => contE kb.2.cont))
  | .callW _ l _ y bl => y.s :: (l.flatMap svE ++ bl.flatMap (fun kb => contE kb.2.cont))
  | .callJ x _ l _ y bl => y.s :: ((x :: l).flatMap svE ++ bl.flatMap (fun kb => contE kb.2.cont))
  | .callV x l _ y bl => y.s :: ((x :: l).flatMap svE ++ bl.flatMap (fun kb => contE kb.2.cont))
  | .iad _ x i | .idx _ x i => svE x ++ svE i
  | .slc _ x lo hi mx => svE x ++ oE lo ++ oE hi ++ oE mx
  | .bld _ ps => ps.flatMap fun p => svE p.2
  | .gen _ _ ps => ps.flatMap fun p => svE p.2
  | .pick c a b => svE c ++ svE a ++ svE b
  | .sel c p _ _ => contE c ++ posE p
  | .plain a => atE a
  | .upd c p _ v => contE c ++ posE p ++ svE v
  | .call _ l => l.flatMap svE
  | .callI x _ l | .dfr x l => svE x ++ l.flatMap svE
  | .guard g n => gE g ++ ndE n
def ndB : Nd → List Nat
  | .bin _ _ _ _ x y => svB x ++ svB y
  | .un _ x | .conv _ _ x | .ext x _ | .fad _ x _ | .fld _ x _ | .len _ x | .asAgg _ x | .ix _ x => svB x
  | .loadU _ x y => y.ow ++ svB x
  | .eff _ _ ps _ y bl => y.ow ++ ps.flatMap (fun p => svB p.2) ++ bl.flatMap (fun kb => kb.1 :: contB kb.2.cont)
  | .callW _ l _ y bl => y.ow ++ l.flatMap svB ++ bl.flatMap (fun kb => kb.1 :: contB kb.2.cont)
  | .callJ x _ l _ y bl => y.ow ++ (x :: l).flatMap svB ++ bl.flatMap (fun kb => kb.1 :: contB kb.2.cont)
  | .callV x l _ y bl => y.ow ++ (x :: l).flatMap svB ++ bl.flatMap (fun kb => kb.1 :: contB kb.2.cont)
  | .iad _ x i | .idx _ x i => svB x ++ svB i
  | .slc _ x lo hi mx => svB x ++ oB lo ++ oB hi ++ oB mx
  | .bld _ ps => ps.flatMap fun p => svB p.2
  | .gen _ _ ps => ps.flatMap fun p => svB p.2
  | .pick c a b => svB c ++ svB a ++ svB b
  | .sel c _ _ _ => contB c
  | .plain a => atB a
  | .upd c _ _ v => contB c ++ svB v
  | .call _ l => l.flatMap svB
  | .callI x _ l | .dfr x l => svB x ++ l.flatMap svB
  | .guard g n => gB g ++ ndB n
def okE (ne nb : Nat) (s : SV) : Bool := (svE s).all (fun e => decide (e < ne)) && (svB s).all (fun b => decide (b < nb))
def okG (ne nb : Nat) (g : List (At × Bool)) : Bool := (gE g).all (fun e => decide (e < ne)) && (gB g).all (fun b => decide (b < nb))
def okC (ne nb : Nat) (c : Cont) : Bool := (contE c).all (fun e => decide (e < ne)) && (contB c).all (fun b => decide (b < nb))
def okN (ne nb : Nat) (n : Nd) : Bool := (ndE n).all (fun e => decide (e < ne)) && (ndB n).all (fun b => decide (b < nb))
def okNs (nb : Nat) : Nat → List Nd → Bool
  | _, [] => true
  | ne, n :: ns => okN ne nb n && okNs nb (ne + 1) ns
def okF (ne nb : Nat) : Fin → Bool
  | .val s | .eff s _ => okE ne nb s
  | .newb b | .newsl b _ => okC ne nb b.cont
  | .setb k b => okC ne nb b.cont && decide (k < nb)
def okRes (σ : St) (r : Res) : Bool := okNs σ.blocks.length σ.ne r.nds && okF (σ.ne + r.nds.length) σ.blocks.length r.fin
def okSlot (ne nb : Nat) (s : Slot) : Bool := okE ne nb s.s && okG ne nb s.g
def okB (ne nb : Nat) : Option Blk → Bool | none => true | some b => okC ne nb b.cont
def wf (σ : St) : Bool := σ.slots.all (okSlot σ.ne σ.blocks.length) && σ.blocks.all (okB σ.ne σ.blocks.length) && (σ.gl.all fun p => decide (p.2 < σ.blocks.length)) && decide (σ.sy.s < σ.ne) && σ.sy.ow.all fun k => decide (k < σ.blocks.length)
inductive HEff where
  | none
  | new (b : Blk)
  | set (k : Nat) (b : Blk)
  | eff
  deriving Inhabited
/-- What one operation of the head comes to: its slot, its nodes with the first one's number, what it does to memory. -/
structure HR where
  dst : Option Nat
  slot : Slot
  ne : Nat
  nds : List Nd
  eff : HEff
  s : Nat
  deriving Inhabited
def applyR (on : Bool) (σ : St) (r : HR) : St :=
  { slots := if on then (match r.dst with | some t => σ.slots.set t r.slot | none => σ.slots) else σ.slots
    blocks := match r.eff with
      | .none | .eff => σ.blocks
      | .new b => σ.blocks ++ [if on then some b else none]
      | .set k b => if on then σ.blocks.set k (some b) else σ.blocks
    gl := σ.gl, ne := σ.ne
    sy := match r.eff with
      | .eff => if on then ⟨σ.sy.live, r.ne + r.nds.length - 1, if r.slot.g.isEmpty then [] else σ.sy.ow⟩ else σ.sy
      | .set k _ => if on then ⟨σ.sy.live, σ.sy.s, k :: σ.sy.ow⟩ else σ.sy
      | _ => σ.sy }
/-- The state that the results with these numbers leave. -/
def minSt (D : Nat → Bool) : Nat → List HR → St → St
  | _, [], σ => σ
  | i, r :: rs, σ => minSt D (i + 1) rs (applyR (D i) σ r)
def junkSlots (ds : List Nat) : Nat → List Slot → List Slot
  | _, [] => []
  | t, s :: r => (if ds.contains t then ⟨.x .junk, []⟩ else s) :: junkSlots ds (t + 1) r
/-- The numbers that an operation's nodes may name: of the state ahead of the region, of the operations that it waits for, and its own. -/
def allowE (ne0 : Nat) (D : Nat → Bool) (e : Nat) : Nat → List HR → Bool
  | _, [] => decide (e < ne0)
  | i, r :: rs => (D i && decide (r.ne ≤ e) && decide (e < r.ne + r.nds.length)) || allowE ne0 D e (i + 1) rs
def allowB (D : Nat → Bool) (k : Nat) : Nat → Nat → List HR → Bool
  | nb, _, [] => false && nb == 0
  | nb, i, r :: rs => match r.eff with
    | .new _ => (D i && k == nb) || allowB D k (nb + 1) (i + 1) rs
    | _ => allowB D k nb (i + 1) rs
def supE (ne0 : Nat) (rs : List HR) (D : Nat → Bool) (ne len : Nat) (e : Nat) : Bool := allowE ne0 D e 0 rs || (decide (ne ≤ e) && decide (e < ne + len))
def supB (nb0 : Nat) (rs : List HR) (D : Nat → Bool) (own : Option Nat) (k : Nat) : Bool := decide (k < nb0) || allowB D k nb0 0 rs || own == some k
def okNds (ne0 nb0 : Nat) (rs : List HR) (D : Nat → Bool) (ne : Nat) : List Nd → Nat → Bool
  | [], _ => true
  | n :: ns, j => (ndE n).all (supE ne0 rs D ne j) && (ndB n).all (supB nb0 rs D none) && okNds ne0 nb0 rs D ne ns (j + 1)
def okHR (ne0 nb0 nbNow : Nat) (rs : List HR) (D : Nat → Bool) (r : HR) : Bool :=
  let len := r.nds.length
  okNds ne0 nb0 rs D r.ne r.nds 0 && (svE r.slot.s ++ gE r.slot.g).all (supE ne0 rs D r.ne len) && (gE r.slot.g).all (supE ne0 rs D r.ne 0) && (gB r.slot.g).all (supB nb0 rs D none) && supE ne0 rs D r.ne 0 r.s && match r.eff with
    | .none | .eff => (svB r.slot.s).all (supB nb0 rs D none)
    | .new b => (svB r.slot.s).all (supB nb0 rs D (some nbNow)) && (contE b.cont).all (supE ne0 rs D r.ne len) && (contB b.cont).all (supB nb0 rs D none)
    | .set k b => (svB r.slot.s).all (supB nb0 rs D none) && (contE b.cont).all (supE ne0 rs D r.ne len) && (contB b.cont).all (supB nb0 rs D none) && supB nb0 rs D none k
/-- The conditions under which an operation is carried out; none: it cannot be told. -/
def guardOf (ops : Array Oper) (σ : St) (o : Oper) : Option (List (At × Bool)) :=
  match o.guard with
  | none => some []
  | some (j, want) => do
    let d ← (ops[j]?).bind (·.dst)
    match ← σ.slots[d]? with
    | ⟨.x (.v i), g⟩ => some (g ++ [(.v i, want)])
    | _ => none
def isStore (o : Oper) : Bool := match o.op with | .store .. => true | _ => false
def isEff (A : Ann) (o : Oper) : Bool :=
  match o.op with
  | .buildSlice .. => !litAt A o
  | .convert s d _ => s == d
  | .makeSlice .. | .store .. | .makeMap .. | .lookup .. | .insert .. => true
  | .alloc .. | .box .. => looseAt A o
  | .call { callee := .value (.tmp _), .. } | .call { callee := .invoke .., .. } => A.dyn.isSome
  | .call { callee := .builtin .append, .. } | .call { callee := .builtin .copy, .. } | .call { callee := .builtin .clear, .. } => true
  | .call { callee := .value (.func f), .. } => !A.calls.contains f && (A.callsW.find? (·.1 == f)).isSome
  | _ => false
def isMem (A : Ann) (o : Oper) : Bool := isStore o || isEff A o || match o.op with | .load .. => true | _ => false
/-- May it write to memory that was there? -/
def isMd (A : Ann) (o : Oper) : Bool :=
  match o.op with
  | .store .. | .insert .. => true
  | .convert s d _ => s == d
  | .call { callee := .value (.tmp _), .. } | .call { callee := .invoke .., .. } => A.dyn == some true
  | .call { callee := .builtin .append, .. } | .call { callee := .builtin .copy, .. } | .call { callee := .builtin .clear, .. } => true
  | .call { callee := .value (.func f), .. } => match A.callsW.find? (·.1 == f) with | some (_, md) => md | none => false
  | _ => false
def isNewOp (o : Oper) : Bool := match o.op with | .alloc .. | .box .. | .buildSlice .. => true | _ => false
/-- Does every effect and every store wait for this operation, or this operation for it? -/
def effOrd (A : Ann) (l : List Oper) (bf : List Nat) (i : Nat) : Bool :=
  l.zipIdx.all fun (o', j) => !(isEff A o' || isStore o') || j == i || (bf.getD i 0).testBit j || (bf.getD j 0).testBit i
def isLd (A : Ann) (o : Oper) : Bool := isMem A o && !isStore o && !isEff A o
/-- Does every effect and every store that may change old memory wait for this read, and is none ahead of it? Then it reads what was there at the region's start. -/
def freeLd (A : Ann) (l : List Oper) (bf : List Nat) (i : Nat) : Bool :=
  l.zipIdx.all fun (o', j) => !(isEff A o' || isStore o') || (!(bf.getD i 0).testBit j && ((bf.getD j 0).testBit i || (isEff A o' && !isMd A o')))
def seesOrd (A : Ann) (l : List Oper) (bf : List Nat) (i : Nat) (o : Oper) : Bool := isMem A o && (effOrd A l bf i || (isLd A o && freeLd A l bf i))
def newOrd (l : List Oper) (bf : List Nat) (i : Nat) : Bool :=
  l.zipIdx.all fun (o', j) => !isNewOp o' || j == i || (bf.getD i 0).testBit j || (bf.getD j 0).testBit i
/-- An effect has one node. -/
def effOk (s : Nat) (r : Res) : Bool := match r.nds with | [n] => n.sync? == some s | _ => false
/-- The state from which an operation of the head is run; lv: is it known what untracked memory is like? -/
def headSt (A : Ann) (σ0 : St) (rs : List HR) (D : Nat → Bool) (ne : Nat) (o : Oper) (lv : Bool) : St :=
  let σ := minSt D 0 rs σ0
  { slots := σ.slots, gl := σ.gl, ne := ne, sy := ⟨σ.sy.live && lv, σ.sy.s, σ.sy.ow⟩, blocks := if isMem A o then σ.blocks else σ.blocks.map fun _ => none }
def mkHR (A : Ann) (o : Oper) (g : List (At × Bool)) (ne nb s : Nat) (r : Res) : Option HR :=
  let nds := r.nds.map fun n => if g.isEmpty then n else .guard g n
  match r.fin with
  | .val x => some ⟨o.dst, ⟨x, g⟩, ne, nds, .none, s⟩
  | .newb b => if g.isEmpty && isNewOp o then some ⟨o.dst, ⟨.x (.p nb 0), []⟩, ne, nds, .new b, s⟩ else none
  | .newsl b len => if g.isEmpty && isNewOp o then some ⟨o.dst, ⟨.x (.sl nb 0 len len), []⟩, ne, nds, .new b, s⟩ else none
  | .setb k b => if g.isEmpty && isStore o then some ⟨o.dst, ⟨.x (.c undef), []⟩, ne, nds, .set k b, s⟩ else none
  | .eff x md => if isEff A o && (!md || isMd A o) && effOk s r then some ⟨o.dst, ⟨x, g⟩, ne, nds, .eff, s⟩ else none
/-- May it write to old memory, and does an alloc not wait? -/
def mdBad (A : Ann) (ops : Array Oper) (bf : List Nat) (i : Nat) (o : Oper) (h : HR) : Bool := match h.eff with | .eff => isMd A o && !newOrd ops.toList bf i | _ => false
def headOp (P : Program) (A : Ann) (ops : Array Oper) (bf : List Nat) (i : Nat) (σ0 : St) (rs : List HR) (ne : Nat) (o : Oper) : Option HR :=
  let σ := headSt A σ0 rs (bf.getD i 0).testBit ne o (seesOrd A ops.toList bf i o)
  match guardOf ops σ o with
  | none => none
  | some g => match step P A σ g o with
    | none => none
    | some r => match mkHR A o g ne σ.blocks.length σ.sy.s r with
      | none => none
      | some h => if mdBad A ops bf i o h then none else if okHR σ0.ne σ0.blocks.length σ.blocks.length rs (bf.getD i 0).testBit h then some h else none
def ndChain : List Nd → T → T
  | [], k => k
  | n :: ns, k => .nd n (ndChain ns k)
/-- A store and an operation on memory ahead of it wait for one another, unless that one reads alone ('ldOk' looks at those); so do two effects. -/
def memOk (A : Ann) (l : List Oper) (bf : List Nat) : Bool :=
  l.zipIdx.all fun (o, i) => !isMem A o || (l.zipIdx.all fun (o', j) => !isMem A o' || !(isStore o || isStore o' || (isEff A o && isEff A o')) || !(decide (j < i)) || (bf.getD i 0).testBit j || (isStore o && isLd A o'))
def isNew (r : HR) : Bool := match r.eff with | .new _ => true | _ => false
def cntNew (rs : List HR) : Nat := (rs.filter isNew).length
/-- A store that does not wait for a load ahead of it writes to a block that was not there for the load. -/
def ldOk (A : Ann) (l : List Oper) (bf : List Nat) (nb : Nat) (out : List HR) : Bool :=
  l.zipIdx.all fun (o, j) => !isLd A o || (out.zipIdx.all fun (r, i) => match r.eff with
    | .set k _ => !(decide (j < i)) || (bf.getD i 0).testBit j || decide (nb + cntNew (out.take j) ≤ k)
    | _ => true)
/-- The temporaries that an operation writes which may come up ahead of this one or behind it. -/
def clash (l : List Oper) (bf : List Nat) (i : Nat) : List Nat :=
  l.zipIdx.filterMap fun (o, j) => if j == i || (bf.getD i 0).testBit j || (bf.getD j 0).testBit i then none else o.dst
def headList (P : Program) (A : Ann) (ops : Array Oper) (bf : List Nat) (σ : St) : List Oper → Nat → List HR → Nat → Option (List HR)
  | [], _, rs, _ => some rs
  | o :: l, i, rs, ne => match headOp P A ops bf i { σ with slots := junkSlots (clash ops.toList bf i) 0 σ.slots } rs ne o with
    | none => none
    | some r => headList P A ops bf σ l (i + 1) (rs ++ [r]) (ne + r.nds.length)
def chainAll : List HR → T → T
  | [], k => k
  | r :: rs, k => ndChain r.nds (match r.eff with | .new _ => .newb r.s (chainAll rs k) | _ => chainAll rs k)
def cntNe (rs : List HR) : Nat := (rs.map fun r => r.nds.length).sum
def bfOf (ops : List Oper) : List Nat → List Nat
  | acc => match ops with
    | [] => acc
    | o :: r => bfOf r (acc ++ [o.after.toList.foldl (fun s e => if Region.binds .any e then s ||| 2 ^ e.on ||| acc.getD e.on 0 else s) 0])
def distinct : List Nat → Bool
  | [] => true
  | a :: l => !l.contains a && distinct l
def okBf (bf : List Nat) (i : Nat) : List Nat → Bool
  | [] => true
  | m :: r => decide (m < 2 ^ i) && okBf bf (i + 1) r
def execDraw1 (P : Program) (A : Ann) (ops : Array Oper) (σ : St) (K : St → T) : T :=
  let l := ops.toList
  let bf := bfOf l []
  let ds := l.filterMap (·.dst)
  if !(distinct ds && okBf bf 0 bf && Region.noSelect ops && memOk A l bf) then .fail 16 else
  match headList P A ops bf σ l 0 [] σ.ne with
  | none => .fail 17
  | some out => if !ldOk A l bf σ.blocks.length out then .fail 18 else chainAll out (K { minSt (fun _ => true) 0 out σ with ne := σ.ne + cntNe out })
/-! effects that do not wait for one another: both orders -/
/-- Operation j waits for operation i, too. -/
def addAfter (ops : Array Oper) (j i : Nat) : Array Oper := ops.modify j fun o => { o with after := o.after.push ⟨i, .data⟩ }
/-- Where the operation with this number stands in the order p. -/
def invP (p : List Nat) (i : Nat) : Nat := if i < p.length then p.idxOf i else i
def renOp (p : List Nat) (o : Oper) : Oper := { o with after := o.after.map fun e => { e with on := invP p e.on }, guard := o.guard.map fun x => (invP p x.1, x.2) }
def permOps (p : List Nat) (ops : Array Oper) : Array Oper := (p.map fun i => renOp p (ops.getD i default)).toArray
def okPerm (p : List Nat) (n : Nat) : Bool := p.length == n && (List.range n).all fun i => decide (p.getD i 0 < n) && decide (invP p i < n) && invP p (p.getD i 0) == i && p.getD (invP p i) 0 == i
/-- What j waits for and j itself, then the others. -/
def frontP (bf : List Nat) (n j : Nat) : List Nat := (List.range n).filter (fun x => x == j || (bf.getD j 0).testBit x) ++ (List.range n).filter fun x => !(x == j || (bf.getD j 0).testBit x)
/-- Is this variable's place to be told apart from what effects make? (loose names it by 1000000 more) -/
def sepAt (A : Ann) (o : Oper) : Bool := match o.op with
  | .alloc .. | .box .. => match o.dst with | some d => A.loose.contains (1000000 + d) | none => false
  | _ => false
/-- Is this read to be ordered against effects that may change old memory? (loose names it in the same way) -/
def sepLd (A : Ann) (o : Oper) : Bool := match o.op with
  | .load .. => match o.dst with | some d => A.loose.contains (1000000 + d) | none => false
  | _ => false
/-- Two effects (or an effect and such a variable or read) of which none waits for the other. -/
def loosePair (A : Ann) (l : List Oper) (bf : List Nat) : Option (Nat × Nat) :=
  l.zipIdx.findSome? fun (o, j) => if isEff A o || isStore o || sepAt A o || sepLd A o then l.zipIdx.findSome? fun (o', i) => if decide (i < j) && ((isEff A o && (isEff A o' || sepAt A o' || (isMd A o && sepLd A o'))) || (isEff A o' && (sepAt A o || (isMd A o' && sepLd A o))) || (isStore o && sepLd A o') || (isStore o' && sepLd A o)) && !(bf.getD j 0).testBit i then some (i, j) else none else none
def execDrawN (P : Program) (A : Ann) : Nat → Array Oper → St → (St → T) → T
  | 0, ops, σ, K => execDraw1 P A ops σ K
  | n + 1, ops, σ, K => match loosePair A ops.toList (bfOf ops.toList []) with
    | none => execDraw1 P A ops σ K
    | some (i, j) =>
      let p := frontP (bfOf ops.toList []) ops.size j
      if decide (i < ops.size) && decide (j < ops.size) && decide (i < j) && okPerm p ops.size then .both (execDrawN P A n (addAfter ops j i) σ K) (execDrawN P A n (permOps p (addAfter ops i j)) σ K) else .fail 19
def execDraw (P : Program) (A : Ann) (ops : Array Oper) (σ : St) (K : St → T) : T := execDrawN P A 6 ops σ K
section
variable (P : Program)
/-! running -/
def setSlot (σ : St) (d : Option Nat) (s : SV) (g : List (At × Bool)) : St :=
  match d with
  | none => σ
  | some t => { σ with slots := σ.slots.set t ⟨s, g⟩ }
def finish (σ : St) (d : Option Nat) (g : List (At × Bool)) : Fin → (St → T) → T
  | .val s, K => K (setSlot σ d s g)
  | .eff s _, K => K (setSlot { σ with sy := ⟨σ.sy.live, σ.ne - 1, if g.isEmpty then [] else σ.sy.ow⟩ } d s g)
  | .newb b, K => .newb σ.sy.s (K (setSlot { σ with blocks := σ.blocks ++ [some b] } d (.x (.p σ.blocks.length 0)) g))
  | .newsl b len, K => .newb σ.sy.s (K (setSlot { σ with blocks := σ.blocks ++ [some b] } d (.x (.sl σ.blocks.length 0 len len)) g))
  | .setb k b, K => K (setSlot { σ with blocks := σ.blocks.set k (some b), sy := ⟨σ.sy.live, σ.sy.s, k :: σ.sy.ow⟩ } d (.x (.c undef)) g)
def nodes (σ : St) (g : List (At × Bool)) : List Nd → (St → T) → T
  | [], K => K σ
  | n :: ns, K => .nd (if g.isEmpty then n else .guard g n) (nodes { σ with ne := σ.ne + 1 } g ns K)
/-- One operation, under conditions. -/
def execOp1.go (A : Ann) (σ : St) (o : Oper) (K : St → T) (g : List (At × Bool)) : T :=
  match step P A σ g o with
  | some r => if !(okRes σ r && okG σ.ne σ.blocks.length g) then .fail 20 else match g, r.fin with
    | [], f => nodes σ [] r.nds fun σ => finish σ o.dst [] f K
    | g, .val s => nodes σ g r.nds fun σ => finish σ o.dst g (.val s) K
    | g, .eff s md => if effOk σ.sy.s r then nodes σ g r.nds fun σ => finish σ o.dst g (.eff s md) K else .fail 26
    | _, _ => .fail 2
  | none => .fail 1
/-- One operation. -/
def execOp1 (A : Ann) (ops : Array Oper) (σ : St) (o : Oper) (K : St → T) : T :=
  match o.guard with
  | none => execOp1.go P A σ o K []
  | some (j, want) =>
    match (ops[j]?).bind (·.dst) with
    | none => .fail 3
    | some d => match σ.slots[d]? with
      | some ⟨.x (.v i), g⟩ => execOp1.go P A σ o K (g ++ [(.v i, want)])
      | some ⟨.x (.c (.bool t)), []⟩ => if t == want then execOp1.go P A σ o K [] else K (setSlot σ o.dst (.x (.c undef)) [])
      | _ => .fail 4
/-- A call laid by till the function's end. -/
def execDfr (σ : St) (o : Oper) (c : Call) (K : St → T) : T :=
  match o.guard, c.callee with
  | none, .value f => match evalO σ [] f, c.args.toList.mapM (evalO σ []) with
    | some x, some l => if okN σ.ne σ.blocks.length (.dfr x l) then .nd (.dfr x l) (K (setSlot { σ with ne := σ.ne + 1 } o.dst (.x (.c undef)) [])) else .fail 27
    | _, _ => .fail 28
  | _, _ => .fail 29
def execOps (A : Ann) (ops : Array Oper) : List Oper → St → (St → T) → T
  | [], σ, K => K σ
  | o :: r, σ, K => match o.op with
    | .defer c => execDfr σ o c fun σ => execOps A ops r σ K
    | _ => execOp1 P A ops σ o fun σ => execOps A ops r σ K
end
section
variable (P : Program)
def dsts : Code → List Nat
  | .region _ ops _ => ops.toList.filterMap (·.dst)
  | .seq a b => dsts a ++ dsts b
  | .cond _ a b => dsts a ++ dsts b
  | .block _ a => dsts a
  | .loop a => dsts a
  | _ => []
def firstRegion : Code → Option Nat
  | .region id _ _ => some id
  | .seq a b => match firstRegion a with | some i => some i | none => firstRegion b
  | .cond _ a b => match firstRegion a with | some i => some i | none => firstRegion b
  | .block _ a => firstRegion a
  | .loop a => firstRegion a
  | _ => none
def valSame : Value → Value → Bool
  | .int k a, .int l b => k == l && a == b
  | .bool a, .bool b => a == b
  | .pointer none, .pointer none => true
  | .slice none a b, .slice none c d => a == c && b == d
  | .string a, .string b => a.data == b.data
  | .tuple a, .tuple b => a.size == 0 && b.size == 0
  | .func (.func f) a b, .func (.func g) c d => f == g && a.size == 0 && b.size == 0 && c.size == 0 && d.size == 0
  | _, _ => false
def atSame : At → At → Bool
  | .junk, .junk => true
  | .c v, .c u => valSame v u
  | .v i, .v j => i == j
  | .p a b, .p c d => a == c && b == d
  | .pd a b c d, .pd e f g h => a == e && b == f && c == g && d == h
  | .sl a b c d, .sl e f g h => a == e && b == f && c == g && d == h
  | _, _ => false
def atsSame : List At → List At → Bool
  | [], [] => true
  | a :: l, b :: m => atSame a b && atsSame l m
  | _, _ => false
def contSame : Cont → Cont → Bool
  | .en l, .en m => atsSame l m
  | .wh i, .wh j => i == j
  | _, _ => false
def svSame : SV → SV → Bool
  | .x a, .x b => atSame a b
  | .l a, .l b => atsSame a b
  | .t [], .t [] => true
  | _, _ => false
/-- A slot under conditions is forgotten. -/
def forget (s : Slot) : Slot := match s.g with | [] => s | _ => ⟨.x .junk, []⟩
/-- The slot as the loop's head takes it: live ones get variables, others that the round writes are forgotten. -/
def headSlots (live ds : List Nat) (ne : Nat) : List Slot → Nat → List Slot × List At × Nat
  | [], _ => ([], [], ne)
  | s :: r, t =>
    if live.contains t then
      match s with
      | ⟨.x a, []⟩ =>
        let q := headSlots live ds (ne + 1) r (t + 1)
        (⟨.x (.v ne), []⟩ :: q.1, a :: q.2.1, q.2.2)
      | _ =>
        let q := headSlots live ds ne r (t + 1)
        (⟨.x .junk, []⟩ :: q.1, q.2.1, q.2.2)
    else
      let q := headSlots live ds ne r (t + 1)
      ((if ds.contains t then ⟨.x .junk, []⟩ else forget s) :: q.1, q.2.1, q.2.2)
def headBlocks (hv : List Nat) (ne : Nat) : List (Option Blk) → Nat → List (Option Blk) × List At × Nat
  | [], _ => ([], [], ne)
  | b :: r, t =>
    match hv.contains t, b with
    | true, some ⟨.en l, n, ty, own⟩ =>
      let q := headBlocks hv (ne + l.length) r (t + 1)
      (some ⟨.en (varsFrom ne l.length), n, ty, own⟩ :: q.1, l ++ q.2.1, q.2.2)
    | true, some ⟨.wh i, n, ty, own⟩ =>
      let q := headBlocks hv (ne + 1) r (t + 1)
      (some ⟨.wh ne, n, ty, own⟩ :: q.1, .v i :: q.2.1, q.2.2)
    | _, b =>
      let q := headBlocks hv ne r (t + 1)
      (b :: q.1, q.2.1, q.2.2)
def head (live ds hv : List Nat) (σ : St) : St × List At :=
  let q := headSlots live ds σ.ne σ.slots 0
  let p := headBlocks hv q.2.2 σ.blocks 0
  (⟨q.1, p.1, σ.gl, p.2.2 + 1, ⟨true, p.2.2, []⟩⟩, q.2.1 ++ p.2.1)
/-- The values, behind a round, of what the head took for variables; none if it does not fit the head. -/
def matchSlots (live ds : List Nat) : List Slot → List Slot → Nat → Option (List At)
  | [], [], _ => some []
  | h :: hs, s :: ss, t =>
    if live.contains t then
      match h, s with
      | ⟨.x (.v _), []⟩, ⟨.x a, []⟩ => if okAt a then (matchSlots live ds hs ss (t + 1)).map (a :: ·) else none
      | ⟨.x .junk, []⟩, _ => matchSlots live ds hs ss (t + 1)
      | _, _ => none
    else if ds.contains t then matchSlots live ds hs ss (t + 1)
    else if svSame h.s s.s && h.g.isEmpty && s.g.isEmpty then matchSlots live ds hs ss (t + 1)
    else match h.s with
      | .x .junk => matchSlots live ds hs ss (t + 1)
      | _ => none
  | _, _, _ => none
def matchBlocks (hv : List Nat) : List (Option Blk) → List (Option Blk) → Nat → Option (List At)
  | [], _, _ => some []
  | none :: hs, _ :: ss, t => matchBlocks hv hs ss (t + 1)
  | some h :: hs, some s :: ss, t =>
    if !(h.n == s.n && h.ty == s.ty && h.own == s.own) then none else
    if hv.contains t then
      match h.cont, s.cont with
      | .en l, .en m => if l.length == m.length then (matchBlocks hv hs ss (t + 1)).map (m ++ ·) else none
      | .wh _, .wh j => (matchBlocks hv hs ss (t + 1)).map (.v j :: ·)
      | _, _ => none
    else if contSame h.cont s.cont then matchBlocks hv hs ss (t + 1) else none
  | _, _, _ => none
def backTo (live ds hv : List Nat) (h σ : St) : Option (List At) := do
  let vs ← matchSlots live ds h.slots σ.slots 0
  let ws ← matchBlocks hv h.blocks σ.blocks 0
  some (vs ++ ws)
def rounds (body : St → (Ex → St → T) → T) (K : Ex → St → T) : Nat → St → T
  | 0, _ => .fail 5
  | m + 1, σ => body σ fun e σ' => match e with | .normal => rounds body K m σ' | e => K e σ'
def exec (A : Ann) : Nat → Nat → Code → St → (Ex → St → T) → T
  | 0, _, _, _, _ => .fail 6
  | fuel + 1, dp, c, σ, K =>
    match c with
    | .skip => K .normal σ
    | .region _ ops draw => if draw then execDraw P A ops σ (K .normal) else execOps P A ops ops.toList σ (K .normal)
    | .seq a b => exec A fuel dp a σ fun e σ' => match e with | .normal => exec A fuel dp b σ' K | e => K e σ'
    | .cond c a b => match evalO σ [] c with
      | some (.x (.c (.bool t))) => exec A fuel dp (if t then a else b) σ K
      | some (.x (.v i)) => .cond (.v i) (exec A fuel dp a σ K) (exec A fuel dp b σ K)
      | _ => .fail 8
    | .block id a => exec A fuel dp a σ fun e σ' => match e with | .exit i => if i = id then K .normal σ' else K e σ' | e => K e σ'
    | .exit id => K (.exit id) σ
    | .ret => K .ret σ
    | .loop a =>
      match firstRegion a with
      | none => .fail 9
      | some r => match A.loops.find? (·.1 == r) with
        | none => rounds (fun σ K => exec A fuel dp a σ K) K A.unroll σ
        | some (_, live, hv) =>
          let ds := dsts a
          let h := (head live ds hv σ).1
          match backTo live ds hv h σ with
          | none => .fail 23
          | some us0 =>
            if !(wf h && σ.sy.live) then .fail 21 else
            .loop dp us0 us0.length σ.sy (knownBl σ.blocks 0) (exec A fuel (dp + 1) a h fun e σ' => match e with
              | .normal => match backTo live ds hv h σ' with
                | some us => if σ'.sy.live then .again dp us σ'.sy [] else .fail 24
                | none => .fail 10
              | e => K e σ')
    | _ => .fail 11
def resComp (σ : St) : ResultVar → Option (List At × Bool)
  | .tmp t => match evalO σ [] (.tmp t) with
    | some (.x a) => some ([a], false)
    | some (.l as) => some (as, true)
    | _ => none
  | .cell a t => do
    let s ← evalO σ [] (.tmp a)
    let r ← stepLoad P σ t s
    match r with
    | ⟨[], .val (.x a)⟩ => some ([a], false)
    | ⟨[], .val (.l as)⟩ => some (as, true)
    | _ => none
def resultSV (fn : Func) (σ : St) : Option SV := do
  let l ← fn.results.toList.mapM (resComp P σ)
  match l with
  | [(l, true)] => some (.l l)
  | [([a], false)] => some (.x a)
  | [_] => none
  | l => some (.t l)
/-- Does it make functions that have captured variables? -/
def cloC : Code → Bool
  | .region _ ops _ => ops.any fun o => match o.op with | .makeFunc _ _ cs => !cs.isEmpty | _ => false
  | .seq a b => cloC a || cloC b
  | .cond _ a b => cloC a || cloC b
  | .block _ a => cloC a
  | .loop a => cloC a
  | _ => false
def clo (fn : Func) : Bool := match fn.body with | some c => cloC c | none => false
/-- A whole function: its arguments, what is known of memory. -/
def run (A : Ann) (f : FuncId) (args : List SV) (blocks : List (Option Blk)) (gl : List (Nat × Nat)) (ne : Nat) : T :=
  match P.funcs[f]? with
  | none => .fail 12
  | some fn => match fn.body with
    | none => .fail 13
    | some c =>
      let σ : St := ⟨args.map (⟨·, []⟩) ++ List.replicate (fn.ntmps - args.length) ⟨.x (.c undef), []⟩, blocks, gl, ne, ⟨true, ne - 1, []⟩⟩
      if !(wf σ && args.all okSV && decide (args.length ≤ fn.ntmps)) then .fail 22 else
      exec P A 2000 0 c σ fun e σ' => match e with
        | .exit _ => .fail 14
        | _ => match resultSV P fn σ' with
          | some s => if σ'.sy.live then .ret s σ'.sy (if (svB s).isEmpty && !clo fn then [] else knownBl σ'.blocks 0) else .fail 25
          | none => .fail 15
end
end Go.Vc
