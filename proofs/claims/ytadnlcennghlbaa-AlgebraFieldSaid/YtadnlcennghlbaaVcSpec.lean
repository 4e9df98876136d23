/-
  Contracts, kept in a table, and how a tree proves one.
-/
import Derived.Test.YtadnlcennghlbaaVcMem
namespace Go.Vc
open Go Go.RowKit
/-- What a function promises: of values alone, or over worlds. -/
structure Contract where
  pre : List Value → Prop := fun _ => False
  post : List Value → Value → Prop := fun _ _ => True
  preW : List Value → World → Prop := fun _ _ => False
  postW : List Value → World → Value → World → Prop := fun _ _ _ _ => True
  modW : List Value → World → Nat → Prop := fun _ _ _ => False
/-- What the nodes of calls and effects ask. -/
def AskF (X : Ctx) (f : Nat) (args : List Value) (K : Value → Prop) : Prop := AskC (X.S.pre f args) (X.S.post f args) K
/-- A call that is laid by. -/
def AskD (X : Ctx) (x : Value) (args : List Value) (K : Value → Prop) : Prop := AskC (∃ d, (∀ w, (Deferred.ofValue x args.toArray).run X.P w = .ok d w) ∧ NoOp X.P d) (fun _ => True) K
/-- A method of an interface value, a function of values. -/
def AskI (X : Ctx) (x : Value) (m : String) (args : List Value) (K : Value → Prop) : Prop := AskC (∃ f ys, Meth X.P x m args f ys ∧ X.S.pre f ys) (fun v => ∃ f ys, Meth X.P x m args f ys ∧ X.S.post f ys v) K
def AskGI (X : Ctx) (g : List (Value × Bool)) (x : Value) (m : String) (args : List Value) (K : Value → Prop) : Prop := AskGC g (∃ f ys, Meth X.P x m args f ys ∧ X.S.pre f ys) (fun v => ∃ f ys, Meth X.P x m args f ys ∧ X.S.post f ys v) K
def AskW (X : Ctx) (u : World) (ow : List Nat) (bl : List KB) (md : Bool) (f : Nat) (args : List Value) (K : Value → World → Prop) : Prop := AskE (preCall X u ow bl md f args) (rCall X u ow bl f args) K
def AskO (X : Ctx) (u : World) (ow : List Nat) (bl : List KB) (md : Bool) (op : Op) (ty : TypeId) (args : List (Nat × Value)) (K : Value → World → Prop) : Prop := AskE (preEff X u ow bl md op ty args) (rEff X u ow bl op ty args) K
def AskGF (X : Ctx) (g : List (Value × Bool)) (f : Nat) (args : List Value) (K : Value → Prop) : Prop := AskGC g (X.S.pre f args) (X.S.post f args) K
def appOp (a b : Operand) (t : TypeId) : Op := .call { callee := .builtin .append, args := #[a, b], argTypes := #[t, t] }
abbrev Table := Nat → Contract
def Table.spec (T : Table) : Spec where
  pre f args := (T f).pre args
  post f args v := (T f).post args v
  preW f args w := (T f).preW args w
  postW f args w v w' := (T f).postW args w v w'
  modW f args w b := (T f).modW args w b
/-- The function keeps its contract. -/
structure Keeps1 (P : Program) (G : World → Prop) (f : Nat) (c : Contract) : Prop where
  calls : ∀ args w, c.pre args → G w → Calls P f args.toArray w fun e w' => ∃ v, e = .returned v ∧ c.post args v ∧ Below w.heap.size w w'
  callsW : ∀ args w, c.preW args w → G w → Calls P f args.toArray w fun e w' => ∃ v, e = .returned v ∧ c.postW args w v w' ∧ KeepsM (c.modW args w) w w'
/-- No promise. -/
theorem keeps_none (P : Program) (G : World → Prop) (f : Nat) : Keeps1 P G f {} := ⟨fun _ _ h => h.elim, fun _ _ h => h.elim⟩
/-- The table with one contract more. -/
def Table.add (T : Table) (f : Nat) (c : Contract) : Table := fun g => if g = f then c else T g
def AllKeep (P : Program) (G : World → Prop) (T : Table) : Prop := ∀ f, Keeps1 P G f (T f)
theorem AllKeep.none (P : Program) (G : World → Prop) : AllKeep P G (fun _ => {}) := fun f => keeps_none P G f
theorem AllKeep.add {P : Program} {G : World → Prop} {T : Table} (h : AllKeep P G T) {f : Nat} {c : Contract} (hc : Keeps1 P G f c) : AllKeep P G (T.add f c) := fun g => by
  unfold Table.add
  split
  · rename_i he; rw [he]; exact hc
  · exact h g
/-- The setting of a proof: what is there when the call begins stays, but for what it may write to. -/
def ctx (P : Program) (G : World → Prop) (T : Table) (w0 : World) (md : Nat → Prop) (R : Value → World → Prop) : Ctx := ⟨P, T.spec, G, w0, fun b => w0.heap.size ≤ b ∨ md b, R⟩
theorem good_of {P : Program} {G : World → Prop} {T : Table} (hm : P.follows .mixedOrders = true) (hT : AllKeep P G T) {w0 : World} {md : Nat → Prop} {R : Value → World → Prop} {A : Ann}
    (hG : ∀ w : World, (∀ b, b < w0.heap.size → ¬ md b → w.heap[b]? = w0.heap[b]?) → w0.heap.size ≤ w.heap.size → G w)
    (he : ∀ f ∈ A.calls, ∀ args w, (callFunc f args).run P w = .ok (.enter f args) w) (heW : ∀ p ∈ A.callsW, ∀ args w, (callFunc p.1 args).run P w = .ok (.enter p.1 args) w) :
    Good (ctx P G T w0 md R) A where
  mixed := hm
  stable := fun w h hs => hG w (fun b hb hnb => h b (fun hh => hh.elim (fun h' => by omega) hnb)) hs
  fresh := fun b hb => .inl hb
  enters := he
  calls := fun f args w hp hg => (hT f).calls args w hp hg
  entersW := heW
  callsW := fun f args w hp hg => (hT f).callsW args w hp hg
theorem known_below {P : Program} {G : World → Prop} {T : Table} {w0 : World} {R : Value → World → Prop} {u w : World} {ow : List Nat} {bl : List KB} (h : KnownV (ctx P G T w0 (fun _ => False) R) u ow bl w) : Below w0.heap.size w0 w where
  os := h.os
  tape := h.tape
  output := h.output
  size := h.sz0
  block := fun b hb => h.keep b (fun hh => hh.elim (fun h' => by omega) id)
theorem known_keepsM {P : Program} {G : World → Prop} {T : Table} {w0 : World} {md : Nat → Prop} {R : Value → World → Prop} {u w : World} {ow : List Nat} {bl : List KB} (h : KnownV (ctx P G T w0 md R) u ow bl w) : KeepsM md w0 w where
  os := h.os
  tape := h.tape
  output := h.output
  size := h.sz0
  block := fun b hb hn => h.keep b (fun hh => hh.elim (fun h' => by omega) hn)
/-- The environment at a call's beginning: the arguments' variables, then the world. -/
def env0 (xs : List Value) (w0 : World) : Env := fun i => ((xs.getD i undef), w0)
theorem mem0 {X : Ctx} {blocks : List (Option Blk)} {gl : List (Nat × Nat)} {env : Env} {β : Nat → Nat} {ne : Nat} (hw : (env (ne - 1)).2 = X.w0)
    (hb : ∀ (k : Nat) (b : Blk), blocks[k]? = some (some b) → b.own = false ∧ (∀ (i : Nat) (v : Value), (b.cont.den env β)[i]? = some v → X.w0.cell? ⟨β k, i, none⟩ = some v) ∧ (b.cont.den env β).size = b.n ∧ b.cont.ok env ∧ β k < X.w0.heap.size)
    (hg : ∀ (g k : Nat), (g, k) ∈ gl → β k = g) : Mem X ⟨true, ne - 1, []⟩ blocks gl env β X.w0 where
  blk := fun k b hk => by
    obtain ⟨h1, h2, h3, h4, _⟩ := hb k b hk
    exact ⟨by unfold Holds; rw [h1]; exact h2, h3, h4⟩
  inh := fun k b hk => (hb k b hk).2.2.2.2
  own := fun k b hk ho => by rw [(hb k b hk).1] at ho; cases ho
  apart := fun j k bj bk _ hj _ ho => by rw [(hb j bj hj).1] at ho; cases ho
  glob := hg
  past := fun _ b _ _ => by rw [hw]
  wksz := by rw [hw]; exact Nat.le_refl _
  keep := fun _ _ => rfl
  sz0 := Nat.le_refl _
  os := rfl
  tape := rfl
  output := rfl
end Go.Vc
