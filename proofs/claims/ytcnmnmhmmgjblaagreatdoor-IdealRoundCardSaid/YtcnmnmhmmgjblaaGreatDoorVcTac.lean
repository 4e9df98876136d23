import Derived.Test.YtcnmnmhmmgjblaaGreatDoorVcUser
import Derived.Great.BuildSlice
import Derived.Laws.AppendOwn
import Derived.Laws.Externs
import Derived.Shelf.Spec.BitsCarry
import Derived.Laws.OwnMore
import Derived.DeepKeys
import Derived.Laws.Tables
/-
  What a user is told of worlds: rules for effects; slices that lie in memory.
-/
namespace Go.Vc
open Go Go.RowKit
section
variable {X : Ctx} {u : World} {ow : List Nat} {bl : List KB} {K : Value → World → Prop}
theorem keeps_alloc (X : Ctx) (tr : List Nat) (w : World) (o : Obj) : Keeps X false tr w (w.alloc o) where
  os := rfl
  tape := rfl
  output := rfl
  size := by simp
  block := fun b hb _ => heap_alloc_old w o hb
/-- An effect that runs to this value and this world, from every world that is known. -/
theorem askE_run {md : Bool} {op : Op} {ty : TypeId} {args : List (Nat × Value)} (hm : mute op = false) (v : World → Value) (w' : World → World)
    (hrun : ∀ w, KnownV X u ow bl w → (execOp (argsFn args) ⟨none, op, ty, "", #[], none⟩).run X.P w = .ok (.value (v w)) (w' w) ∧ Keeps X md (bl.map (·.b)) w (w' w))
    (hK : ∀ w, KnownV X u ow bl w → K (v w) (w' w)) : AskE (preEff X u ow bl md op ty args) (rEff X u ow bl op ty args) K := by
  have ho : ∀ x, effOut op x = .value x := fun x => by unfold effOut; rw [hm]; rfl
  refine askE_intro (fun w hw => ⟨v w, w' w, by rw [ho]; exact (hrun w hw).1, (hrun w hw).2⟩) fun x y ⟨w, hw, hr⟩ => ?_
  rw [ho, (hrun w hw).1] at hr
  cases hr
  exact hK w hw
theorem ask_buildSlice {t e ty : TypeId} {len : Nat} {parts : Array (Nat × Operand)} {args : List (Nat × Value)} (cells : Array Value) (ie : TypeInfo) (z : Value)
    (hu : X.P.underlying t = some (.slice e)) (hie : X.P.info? e = some ie) (hz : ie.zero = some z) (hsmall : ¬ len * ie.size > 2 ^ 24) (hpos : ¬ len * ie.size = 0)
    (hf : Instr.fill (fun i => some (i * ie.size, ie.size)) ((Array.range (len * ie.size)).map (z.cells[· % z.cells.size]!)) (parts.map fun (i, x) => (i, argsFn args x)).toList = some cells)
    (hK : ∀ w, KnownV X u ow bl w → K (.slice (some ⟨w.heap.size, 0, none⟩) len len) (w.alloc (.cells cells e))) :
    AskE (preEff X u ow bl false (.buildSlice t len parts) ty args) (rEff X u ow bl (.buildSlice t len parts) ty args) K :=
  askE_run rfl (fun w => .slice (some ⟨w.heap.size, 0, none⟩) len len) (fun w => w.alloc (.cells cells e)) (fun w _ => ⟨by
    unfold execOp
    simp only [Sem.run_bind, run_buildSlice w t e len _ cells ie z hu hie hz hsmall hpos hf, Result.andThen_ok]
    rfl, keeps_alloc _ _ _ _⟩) hK
/-- A call by a contract over worlds. -/
theorem ask_callW {md : Bool} {f : Nat} {args : List Value} (hpre : ∀ w, KnownV X u ow bl w → X.S.preW f args w ∧ ∀ b, X.S.modW f args w b → md = true ∧ X.mine b ∧ b ∉ bl.map (·.b))
    (hK : ∀ w v w', KnownV X u ow bl w → X.S.postW f args w v w' → K v w') : AskE (preCall X u ow bl md f args) (rCall X u ow bl f args) K :=
  askE_intro hpre fun v w' ⟨w, hw, hp⟩ => hK w v w' hw hp
end
/-- A slice in memory: its elements' cells, one behind another. -/
def SlAt (w : World) (v : Value) (n : Nat) (xs : List Value) : Prop :=
  (v = .slice none 0 0 ∧ n = 0 ∧ xs = []) ∨
  ∃ b o cap, v = .slice (some ⟨b, o, none⟩) n cap ∧ (n ≤ cap ∧ cap ≤ maxLen) ∧ ∀ (i : Nat) (x : Value), xs[i]? = some x → w.cell? ⟨b, o + i, none⟩ = some x
section
variable {X : Ctx} {u : World} {ow : List Nat} {K : Value → Prop}
theorem ask_iad_sl {t elem : TypeId} {b o n cap s : Nat} {kd : IntKind} {i : Int} (hu : X.P.underlying t = some (.slice elem)) (hs : sz X.P elem = some s) (h0 : 0 ≤ i) (h1 : i < (n : Int)) :
    Ask (rIad X.P t (.slice (some ⟨b, o, none⟩) n cap) (.int kd i)) K = K (.pointer (some ⟨b, o + i.toNat * s, none⟩)) :=
  ask_eq (runs_iff fun _ => indexAddr_sl hu hs h0 h1)
theorem ask_len_sl {t elem : TypeId} {a : Option Addr} {n cap : Nat} (hu : X.P.underlying t = some (.slice elem)) : Ask (rLen X.P t (.slice a n cap)) K = K (.int .i64 n) :=
  ask_eq (runs_iff fun w => by simp [Builtin.len_, run_underlying hu]; rfl)
theorem ask_fad {t : TypeId} {fs : Array Field} {fd : Field} {f b o s : Nat} (hu : X.P.underlying t = some (.struct fs)) (hf : fs[f]? = some fd) (hs : sz X.P fd.type = some s) (hs0 : s ≠ 0) :
    Ask (rFad X.P t (.pointer (some ⟨b, o, none⟩)) f) K = K (.pointer (some ⟨b, o + fd.offset, none⟩)) :=
  ask_eq (runs_iff fun w => by
    have h1 := run_sz (X := X) hs w
    simp [Instr.fieldAt, Instr.sureAddr, run_underlying hu, hf, fieldPlace, h1, hs0, add_none])
/-- An aggregate that lies there. -/
theorem ask_load_agg {t : TypeId} {b o : Nat} {cs : List Value} (ht : agg? X.P t = some true) (hn : sz X.P t = some cs.length) (hb : b < u.heap.size) (how : b ∉ ow)
    (hc : ∀ (j : Nat) (v : Value), cs[j]? = some v → u.cell? ⟨b, o + j, none⟩ = some v) (w0 : ∃ w, KnownV X u ow [] w) : Ask (rLoad X u ow t (.pointer (some ⟨b, o, none⟩))) K = K (.agg cs.toArray) := by
  have hr : ∀ w, KnownV X u ow [] w → (Instr.loadAt t (.pointer (some ⟨b, o, none⟩))).run X.P w = .ok (.agg cs.toArray) w := fun w hw =>
    load_agg (X := X) ht hn fun j v hv => by rw [World.cell?_of_block (w := u) (hw.past b hb how)]; exact hc j v hv
  refine ask_eq fun v => ⟨fun h => ?_, fun h w hw => by rw [h]; exact hr w hw⟩
  obtain ⟨w, hw⟩ := w0
  have := h w hw
  rw [hr w hw] at this
  cases this; rfl
theorem ask_load_one {t : TypeId} {b o : Nat} {v : Value} (ht : agg? X.P t = some false) (hb : b < u.heap.size) (how : b ∉ ow)
    (hc : u.cell? ⟨b, o, none⟩ = some v) (w0 : ∃ w, KnownV X u ow [] w) : Ask (rLoad X u ow t (.pointer (some ⟨b, o, none⟩))) K = K v := by
  have hr : ∀ w, KnownV X u ow [] w → (Instr.loadAt t (.pointer (some ⟨b, o, none⟩))).run X.P w = .ok v w := fun w hw =>
    load_one (X := X) ht (by rw [World.cell?_of_block (w := u) (hw.past b hb how)]; exact hc)
  refine ask_eq fun v => ⟨fun h => ?_, fun h w hw => by rw [h]; exact hr w hw⟩
  obtain ⟨w, hw⟩ := w0
  have := h w hw
  rw [hr w hw] at this
  cases this; rfl
end
end Go.Vc

/-
  Contracts, kept in a table, and how a tree proves one.
-/
namespace Go.Vc
open Go Go.RowKit
/-- What a function promises: of values alone, or over worlds. -/
structure Contract where
  pre : List Value → Prop := fun _ => False
  post : List Value → Value → Prop := fun _ _ => True
  preW : List Value → World → Prop := fun _ _ => False
  postW : List Value → World → Value → World → Prop := fun _ _ _ _ => True
  modW : List Value → World → Nat → Prop := fun _ _ _ => False
/-- What the nodes of calls and effects ask. -/
def AskF (X : Ctx) (f : Nat) (args : List Value) (K : Value → Prop) : Prop := AskC (X.S.pre f args) (X.S.post f args) K
/-- A method of an interface value, a function of values. -/
def AskI (X : Ctx) (x : Value) (m : String) (args : List Value) (K : Value → Prop) : Prop := AskC (∃ f ys, Meth X.P x m args f ys ∧ X.S.pre f ys) (fun v => ∃ f ys, Meth X.P x m args f ys ∧ X.S.post f ys v) K
def AskW (X : Ctx) (u : World) (ow : List Nat) (bl : List KB) (md : Bool) (f : Nat) (args : List Value) (K : Value → World → Prop) : Prop := AskE (preCall X u ow bl md f args) (rCall X u ow bl f args) K
def AskO (X : Ctx) (u : World) (ow : List Nat) (bl : List KB) (md : Bool) (op : Op) (ty : TypeId) (args : List (Nat × Value)) (K : Value → World → Prop) : Prop := AskE (preEff X u ow bl md op ty args) (rEff X u ow bl op ty args) K
def AskGF (X : Ctx) (g : List (Value × Bool)) (f : Nat) (args : List Value) (K : Value → Prop) : Prop := AskGC g (X.S.pre f args) (X.S.post f args) K
def AskGW (X : Ctx) (g : List (Value × Bool)) (u : World) (ow : List Nat) (bl : List KB) (md : Bool) (f : Nat) (args : List Value) (K : Value → World → Prop) : Prop := AskGE g u (preCall X u ow bl md f args) (rCall X u ow bl f args) K
def AskV (X : Ctx) (u : World) (ow : List Nat) (bl : List KB) (md : Bool) (x : Value) (args : List Value) (K : Value → World → Prop) : Prop := AskE (preCallV X u ow bl md x args) (rCallV X u ow bl x args) K
def appOp (a b : Operand) (t : TypeId) : Op := .call { callee := .builtin .append, args := #[a, b], argTypes := #[t, t] }
abbrev Table := Nat → Contract
def Table.spec (T : Table) : Spec where
  pre f args := (T f).pre args
  post f args v := (T f).post args v
  preW f args w := (T f).preW args w
  postW f args w v w' := (T f).postW args w v w'
  modW f args w b := (T f).modW args w b
/-- The function keeps its contract. -/
structure Keeps1 (P : Program) (G : World → Prop) (f : Nat) (c : Contract) : Prop where
  calls : ∀ args w, c.pre args → G w → Calls P f args.toArray w fun e w' => ∃ v, e = .returned v ∧ c.post args v ∧ Below w.heap.size w w'
  callsW : ∀ args w, c.preW args w → G w → Calls P f args.toArray w fun e w' => ∃ v, e = .returned v ∧ c.postW args w v w' ∧ KeepsM (c.modW args w) w w'
/-- No promise. -/
theorem keeps_none (P : Program) (G : World → Prop) (f : Nat) : Keeps1 P G f {} := ⟨fun _ _ h => h.elim, fun _ _ h => h.elim⟩
/-- The table with one contract more. -/
def Table.add (T : Table) (f : Nat) (c : Contract) : Table := fun g => if g = f then c else T g
def AllKeep (P : Program) (G : World → Prop) (T : Table) : Prop := ∀ f, Keeps1 P G f (T f)
theorem AllKeep.none (P : Program) (G : World → Prop) : AllKeep P G (fun _ => {}) := fun f => keeps_none P G f
theorem AllKeep.add {P : Program} {G : World → Prop} {T : Table} (h : AllKeep P G T) {f : Nat} {c : Contract} (hc : Keeps1 P G f c) : AllKeep P G (T.add f c) := fun g => by
  unfold Table.add
  split
  · rename_i he; rw [he]; exact hc
  · exact h g
/-- The setting of a proof: what is there when the call begins stays, but for what it may write to. -/
def ctx (P : Program) (G : World → Prop) (T : Table) (w0 : World) (md : Nat → Prop) (R : Value → World → Prop) : Ctx := ⟨P, T.spec, G, w0, fun b => w0.heap.size ≤ b ∨ md b, R⟩
theorem good_of {P : Program} {G : World → Prop} {T : Table} (hm : P.follows .mixedOrders = true) (hT : AllKeep P G T) {w0 : World} {md : Nat → Prop} {R : Value → World → Prop} {A : Ann}
    (hG : ∀ w : World, (∀ b, b < w0.heap.size → ¬ md b → w.heap[b]? = w0.heap[b]?) → w0.heap.size ≤ w.heap.size → G w)
    (he : ∀ f ∈ A.calls, ∀ args w, (callFunc f args).run P w = .ok (.enter f args) w) (heW : ∀ p ∈ A.callsW, ∀ args w, (callFunc p.1 args).run P w = .ok (.enter p.1 args) w) :
    Good (ctx P G T w0 md R) A where
  mixed := hm
  stable := fun w h hs => hG w (fun b hb hnb => h b (fun hh => hh.elim (fun h' => by omega) hnb)) hs
  fresh := fun b hb => .inl hb
  enters := he
  calls := fun f args w hp hg => (hT f).calls args w hp hg
  entersW := heW
  callsW := fun f args w hp hg => (hT f).callsW args w hp hg
theorem known_below {P : Program} {G : World → Prop} {T : Table} {w0 : World} {R : Value → World → Prop} {u w : World} {ow : List Nat} {bl : List KB} (h : KnownV (ctx P G T w0 (fun _ => False) R) u ow bl w) : Below w0.heap.size w0 w where
  os := h.os
  tape := h.tape
  output := h.output
  size := h.sz0
  block := fun b hb => h.keep b (fun hh => hh.elim (fun h' => by omega) id)
theorem known_keepsM {P : Program} {G : World → Prop} {T : Table} {w0 : World} {md : Nat → Prop} {R : Value → World → Prop} {u w : World} {ow : List Nat} {bl : List KB} (h : KnownV (ctx P G T w0 md R) u ow bl w) : KeepsM md w0 w where
  os := h.os
  tape := h.tape
  output := h.output
  size := h.sz0
  block := fun b hb hn => h.keep b (fun hh => hh.elim (fun h' => by omega) hn)
/-- The environment at a call's beginning: the arguments' variables, then the world. -/
def env0 (xs : List Value) (w0 : World) : Env := fun i => ((xs.getD i undef), w0)
theorem mem0 {X : Ctx} {blocks : List (Option Blk)} {gl : List (Nat × Nat)} {env : Env} {β : Nat → Nat} {ne : Nat} (hw : (env (ne - 1)).2 = X.w0)
    (hb : ∀ (k : Nat) (b : Blk), blocks[k]? = some (some b) → b.own = false ∧ (∀ (i : Nat) (v : Value), (b.cont.den env β)[i]? = some v → X.w0.cell? ⟨β k, i, none⟩ = some v) ∧ (b.cont.den env β).size = b.n ∧ b.cont.ok env ∧ β k < X.w0.heap.size)
    (hg : ∀ (g k : Nat), (g, k) ∈ gl → β k = g) : Mem X ⟨true, ne - 1, []⟩ blocks gl env β X.w0 where
  blk := fun k b hk => by
    obtain ⟨h1, h2, h3, h4, _⟩ := hb k b hk
    exact ⟨by unfold Holds; rw [h1]; exact h2, h3, h4⟩
  inh := fun k b hk => (hb k b hk).2.2.2.2
  own := fun k b hk ho => by rw [(hb k b hk).1] at ho; cases ho
  apart := fun j k bj bk _ hj _ ho => by rw [(hb j bj hj).1] at ho; cases ho
  glob := hg
  past := fun _ b _ _ => by rw [hw]
  wksz := by rw [hw]; exact Nat.le_refl _
  keep := fun _ _ => rfl
  sz0 := Nat.le_refl _
  os := rfl
  tape := rfl
  output := rfl
/-- A contract over values, by a tree. -/
theorem keeps_pure {P : Program} {G : World → Prop} {f : Nat} {c : Contract} (hW : ∀ args w, ¬ c.preW args w)
    (h : ∀ args w0, c.pre args → G w0 → Calls P f args.toArray w0 fun e w' => ∃ v, e = .returned v ∧ (c.post args v ∧ Below w0.heap.size w0 w')) : Keeps1 P G f c :=
  ⟨fun args w hp hg => h args w hp hg, fun args w hp _ => absurd hp (hW args w)⟩
/-- A tree that holds, for a function of values. -/
theorem calls_pure {P : Program} {G : World → Prop} {T : Table} {A : Ann} {f : FuncId} {w0 : World} {post : Value → Prop} {args : List SV} {blocks : List (Option Blk)} {gl : List (Nat × Nat)} {ne : Nat} {env : Env} {β : Nat → Nat}
    (vs : List Value) (hvs : args.map (·.den env β) = vs) {nb : Nat} (hnb : blocks.length = nb) (hm : P.follows .mixedOrders = true) (hT : AllKeep P G T)
    (hG : ∀ w : World, (∀ b, b < w0.heap.size → w.heap[b]? = w0.heap[b]?) → w0.heap.size ≤ w.heap.size → G w)
    (he : ∀ f ∈ A.calls, ∀ args w, (callFunc f args).run P w = .ok (.enter f args) w) (heW : ∀ p ∈ A.callsW, ∀ args w, (callFunc p.1 args).run P w = .ok (.enter p.1 args) w)
    (hmem : ∀ X : Ctx, X.w0 = w0 → Mem X ⟨true, ne - 1, []⟩ blocks gl env β w0)
    (hd : ∀ X : Ctx, X.P = P → X.S = T.spec → X.w0 = w0 → (∀ u ow bl v, post v → Ret X u ow bl v) → (run P A f args blocks gl ne).den X env ne β nb (fun _ _ _ => False)) :
    Calls P f vs.toArray w0 fun e w' => ∃ v, e = .returned v ∧ (post v ∧ Below w0.heap.size w0 w') := by
  subst hnb
  have hgood : Good (ctx P G T w0 (fun _ => False) fun v w' => post v ∧ Below w0.heap.size w0 w') A := good_of hm hT (fun w h hs => hG w (fun b hb => h b hb (fun h => h)) hs) he heW
  have h1 := run_sound (X := ctx P G T w0 (fun _ => False) fun v w' => post v ∧ Below w0.heap.size w0 w') hgood (hmem _ rfl)
    (hd _ rfl rfl rfl (fun u ow bl v hv w hw => ⟨hv, known_below hw⟩))
  rw [hvs] at h1
  exact h1
end Go.Vc

/-
  Rules for uint64, by natural numbers.
-/
namespace Go.Vc
open Go Go.RowKit Go.Proofs
/-- A uint64. -/
def U (n : Nat) : Value := .int .u64 n
/-- A natural number as an int. -/
abbrev J (n : Nat) : Value := .int .i64 (n : Int)
abbrev B64 : Nat := 18446744073709551616
theorem execOp_call {P : Program} {f : FuncId} {args : Array Operand} {at_ : Array TypeId} {ty : TypeId} {l : List (Nat × Value)} (w : World) :
    (execOp (argsFn l) ⟨none, .call { callee := .value (.func f), args := args, argTypes := at_ }, ty, "", #[], none⟩).run P w = (callFunc f (args.map (argsFn l))).run P w := by
  simp only [execOp, resolve, Deferred.ofValue, invoke, argsFn, Sem.run_bind, Sem.run_pure, Result.andThen_ok, Array.empty_append, Array.append_empty]
section
variable {P : Program} {K : Value → Prop}
theorem ask_sub64 {f ty : Nat} {xs : Array Operand} {at_ : Array TypeId} {l : List (Nat × Value)} {x y b : Nat} (hf : ∀ x y b : Nat, b ≤ 1 → ∀ w, (callFunc f #[U x, U y, U b]).run P w = .ok (.value (.tuple #[U ((x + B64 - y - b) % B64), U (if x < y + b then 1 else 0)])) w)
    (ha : xs.map (argsFn l) = #[U x, U y, U b]) (hb : b ≤ 1) :
    Ask (rGen P (.call { callee := .value (.func f), args := xs, argTypes := at_ }) ty l) K = K (.tuple #[U ((x + B64 - y - b) % B64), U (if x < y + b then 1 else 0)]) :=
  ask_eq (runsN_iff fun w => by rw [execOp_call, ha, hf x y b hb w])
theorem ask_add64 {f ty : Nat} {xs : Array Operand} {at_ : Array TypeId} {l : List (Nat × Value)} {x y c : Nat} (hf : ∀ x y c : Nat, c ≤ 1 → ∀ w, (callFunc f #[U x, U y, U c]).run P w = .ok (.value (.tuple #[U ((x + y + c) % B64), U ((x + y + c) / B64)])) w)
    (ha : xs.map (argsFn l) = #[U x, U y, U c]) (hc : c ≤ 1) :
    Ask (rGen P (.call { callee := .value (.func f), args := xs, argTypes := at_ }) ty l) K = K (.tuple #[U ((x + y + c) % B64), U ((x + y + c) / B64)]) :=
  ask_eq (runsN_iff fun w => by rw [execOp_call, ha, hf x y c hc w])
variable {t : TypeId} {cx cy : Bool} {a b : Nat}
theorem wrap_u64 (n : Nat) : IntKind.u64.wrap (n : Int) = ((n % B64 : Nat) : Int) := by
  simp [IntKind.wrap, IntKind.bits, IntKind.signed, B64]
theorem ask_uadd : Ask (rBin P .add t cx cy (U a) (U b)) K = K (U ((a + b) % B64)) := by
  unfold U; rw [ask_add, ← Int.natCast_add, wrap_u64]
theorem ask_umul : Ask (rBin P .mul t cx cy (U a) (U b)) K = K (U ((a * b) % B64)) := by
  unfold U; rw [ask_mul, ← Int.natCast_mul, wrap_u64]
theorem ask_ulss : Ask (rBin P .lss t cx cy (U a) (U b)) K = K (.bool (decide (a < b))) := by
  unfold U; rw [ask_lss]; simp
theorem ask_ueql : Ask (rBin P .eql t cx cy (U a) (U b)) K = K (.bool (decide (a = b))) := by
  unfold U; rw [ask_eql]; congr 2; rw [Bool.eq_iff_iff]; simp; omega
theorem ask_uand (ha : a < B64) (hb : b < B64) : Ask (rBin P .and t cx cy (U a) (U b)) K = K (U (a &&& b)) := by
  unfold U; rw [ask_and]
  congr 2
  have : (BitVec.ofInt IntKind.u64.bits (a : Int) &&& BitVec.ofInt IntKind.u64.bits (b : Int)).toNat = a &&& b := by
    rw [BitVec.toNat_and]
    simp only [BitVec.ofInt_natCast, BitVec.toNat_ofNat, IntKind.bits]
    rw [Nat.mod_eq_of_lt ha, Nat.mod_eq_of_lt hb]
  rw [this, wrap_u64, Nat.mod_eq_of_lt (Nat.lt_of_le_of_lt Nat.and_le_left ha)]
theorem ask_uor (ha : a < B64) (hb : b < B64) : Ask (rBin P .or t cx cy (U a) (U b)) K = K (U (a ||| b)) := by
  unfold U; rw [ask_or]
  congr 2
  have : (BitVec.ofInt IntKind.u64.bits (a : Int) ||| BitVec.ofInt IntKind.u64.bits (b : Int)).toNat = a ||| b := by
    rw [BitVec.toNat_or]
    simp only [BitVec.ofInt_natCast, BitVec.toNat_ofNat, IntKind.bits]
    rw [Nat.mod_eq_of_lt ha, Nat.mod_eq_of_lt hb]
  rw [this, wrap_u64, Nat.mod_eq_of_lt (Nat.or_lt_two_pow (n := 64) ha hb)]
theorem ask_uneg (ha : a < B64) : Ask (rUn P .neg (U a)) K = K (U ((B64 - a) % B64)) := by
  unfold U
  rw [ask_neg]
  have : IntKind.u64.wrap (0 - (a : Int)) = IntKind.u64.wrap (((B64 - a : Nat)) : Int) := by
    simp only [IntKind.wrap, IntKind.bits, IntKind.signed, B64] at *
    simp
    omega
  rw [this, wrap_u64]
theorem ask_ushl {kd : IntKind} (hb : b < 64) : Ask (rBin P .shl t cx cy (U a) (.int kd (b : Int))) K = K (U ((a * 2 ^ b) % B64)) := by
  refine ask_eq (runs_iff fun w => ?_)
  have hm : min b IntKind.u64.bits = b := by simp only [IntKind.bits]; omega
  have hw : IntKind.u64.wrap ((a : Int) * 2 ^ b) = ((a * 2 ^ b % B64 : Nat) : Int) := by
    rw [← wrap_u64]; congr 1
  simp [binSem, eqGuard, binOp, U, hw]
theorem ask_ushr {kd : IntKind} (hb : b < 64) : Ask (rBin P .shr t cx cy (U a) (.int kd (b : Int))) K = K (U (a / 2 ^ b)) := by
  refine ask_eq (runs_iff fun w => ?_)
  have hm : min b IntKind.u64.bits = b := by simp only [IntKind.bits]; omega
  have hw : ((a : Int).fdiv (2 ^ b)) = ((a / 2 ^ b : Nat) : Int) := by
    rw [Int.fdiv_eq_ediv_of_nonneg _ (by exact Int.le_of_lt (Int.pow_pos (by omega)))]
    simp
  simp [binSem, eqGuard, binOp, U]
theorem ask_uandNot (ha : a < B64) (hb : b < B64) : Ask (rBin P .andNot t cx cy (U a) (U b)) K = K (U (a &&& (B64 - 1 - b))) := by
  unfold U; rw [ask_andNot]
  congr 2
  have : (BitVec.ofInt IntKind.u64.bits (a : Int) &&& ~~~ BitVec.ofInt IntKind.u64.bits (b : Int)).toNat = a &&& (B64 - 1 - b) := by
    rw [BitVec.toNat_and, BitVec.toNat_not]
    simp only [BitVec.ofInt_natCast, BitVec.toNat_ofNat, IntKind.bits]
    rw [Nat.mod_eq_of_lt ha, Nat.mod_eq_of_lt hb]
  rw [this, wrap_u64, Nat.mod_eq_of_lt (Nat.lt_of_le_of_lt Nat.and_le_left ha)]
theorem ask_ext0 {x y : Value} : Ask (rExt P (.tuple #[x, y]) 0) K = K x := ask_ext rfl
theorem ask_ext1 {x y : Value} : Ask (rExt P (.tuple #[x, y]) 1) K = K y := ask_ext rfl
theorem ask_uplain : Ask (rPlain (U a)) K = K (U a) := ask_plain rfl
end
end Go.Vc

/-
  Contracts by what arguments read as; steps between worlds; scalars as numbers.
-/
namespace Go.Vc
open Go Go.RowKit
/-! ### worlds -/
/-- A world at which an effect has ended. -/
abbrev Kn (X : Ctx) (w : World) : Prop := KnownV X w [] [] w
theorem KnownV.kn {X : Ctx} {u w : World} {ow : List Nat} {bl : List KB} (h : KnownV X u ow bl w) : Kn X w where
  past := fun _ _ _ => rfl
  size := Nat.le_refl _
  keep := h.keep
  sz0 := h.sz0
  os := h.os
  tape := h.tape
  output := h.output
  blk := fun _ h => by cases h
theorem kn0 (X : Ctx) : Kn X X.w0 := ⟨fun _ _ _ => rfl, Nat.le_refl _, fun _ _ => rfl, Nat.le_refl _, rfl, rfl, rfl, fun _ h => by cases h⟩
theorem Kn.some {X : Ctx} {u : World} {ow : List Nat} (h : Kn X u) : ∃ w, KnownV X u ow [] w := ⟨u, { h with past := fun _ _ _ => rfl }⟩
/-- From u to w all blocks stay but those of ex. -/
structure Stp (ex : List Nat) (u w : World) : Prop where
  size : u.heap.size ≤ w.heap.size
  past : ∀ b, b < u.heap.size → b ∉ ex → w.heap[b]? = u.heap[b]?
theorem KnownV.stp {X : Ctx} {u w : World} {ow : List Nat} {bl : List KB} (h : KnownV X u ow bl w) : Stp ow u w := ⟨h.size, h.past⟩
theorem Stp.trans {ex ex' : List Nat} {u v w : World} (h : Stp ex u v) (k : Stp ex' v w) : Stp (ex ++ ex') u w :=
  ⟨Nat.le_trans h.size k.size, fun b hb hn => by
    rw [List.mem_append, not_or] at hn
    exact (k.past b (Nat.lt_of_lt_of_le hb h.size) hn.2).trans (h.past b hb hn.1)⟩
theorem Stp.trans0 {u v w : World} (h : Stp [] u v) (k : Stp [] v w) : Stp [] u w := h.trans k
theorem KeepsM.stp {w w' : World} (h : KeepsM (fun _ => False) w w') : Stp [] w w' := ⟨h.size, fun b hb _ => h.block b hb id⟩
/-- Nothing that was there may be written to. -/
def Std (X : Ctx) : Prop := ∀ b, X.mine b ↔ X.w0.heap.size ≤ b
/-- The start's memory, at any time. -/
theorem Kn.stp0 {X : Ctx} {w : World} (h : Kn X w) (hm : Std X) : Stp [] X.w0 w := ⟨h.sz0, fun b hb _ => h.keep b (fun hh => by have := (hm b).1 hh; omega)⟩
theorem SlAt.stp3 {ex : List Nat} {u w : World} {v : Value} {n : Nat} {xs : List Value} (h : SlAt u v n xs) (hs : Stp ex u w) (hb : ∀ b, v.ownBlock = some b → b < u.heap.size → b ∉ ex) : SlAt w v n xs := by
  rcases h with h | ⟨b, o, cap, hv, hn, hc⟩
  · exact .inl h
  · refine .inr ⟨b, o, cap, hv, hn, fun i x hx => ?_⟩
    have hbz : b < u.heap.size := World.block_lt_of_cell? u _ (hc i x hx)
    rw [World.cell?_of_block (w := u) (hs.past b hbz (hb b (by rw [hv]; rfl) hbz))]
    exact hc i x hx
theorem SlAt.stp {ex : List Nat} {u w : World} {v : Value} {n : Nat} {xs : List Value} (h : SlAt u v n xs) (hs : Stp ex u w) (hb : ∀ b, v.ownBlock = some b → b ∉ ex) : SlAt w v n xs := h.stp3 hs fun b h _ => hb b h
theorem SlAt.stp0 {u w : World} {v : Value} {n : Nat} {xs : List Value} (h : SlAt u v n xs) (hs : Stp [] u w) : SlAt w v n xs := h.stp hs (fun _ _ => List.not_mem_nil)
theorem own_stp {ex : List Nat} {u w : World} {base size n : Nat} {e : TypeId} {v : Value} {xs : List Value} (h : u.ownsRow base e size v n xs) (hs : Stp ex u w) (hb : ∀ b, v.ownBlock = some b → b ∉ ex) : w.ownsRow base e size v n xs := by
  refine ⟨h.1, ?_⟩
  rcases h.2 with hn | ⟨g, cap, cur, rfl, hbg, hg, rest⟩
  · exact .inl hn
  · exact .inr ⟨g, cap, cur, rfl, hbg, by rw [hs.past g (Array.getElem?_eq_some_iff.1 hg).1 (hb g rfl)]; exact hg, rest⟩
theorem own_stp0 {u w : World} {base size n : Nat} {e : TypeId} {v : Value} {xs : List Value} (h : u.ownsRow base e size v n xs) (hs : Stp [] u w) : w.ownsRow base e size v n xs := own_stp h hs (fun _ _ => List.not_mem_nil)
theorem own_slAt {w : World} {base size n : Nat} {e : TypeId} {v : Value} {xs : List Value} (h : w.ownsRow base e size v n xs) : SlAt w v n xs := by
  rcases h.2 with ⟨hv, hn⟩ | ⟨g, cap, cur, rfl, hbg, hg, hnc, hcm, hcs, htake⟩
  · have := h.1
    rw [hn, Nat.zero_mul] at this
    exact .inl ⟨hv, hn, List.eq_nil_of_length_eq_zero this⟩
  · refine .inr ⟨g, 0, cap, rfl, ⟨hnc, hcm⟩, fun i x hx => ?_⟩
    have hi : i < n * size := by rw [← h.1]; exact (List.getElem?_eq_some_iff.1 hx).1
    rw [Nat.zero_add, h.cellAt i hi, hx]
/-! ### contracts by what arguments read as -/
/-- How a value is read. -/
structure Cod (α : Type) where
  rd : World → Value → α → Prop
  inj : ∀ w v a b, rd w v a → rd w v b → a = b
structure Cods (α : Type) where
  rd : World → List Value → α → Prop
  inj : ∀ w v a b, rd w v a → rd w v b → a = b
def Cods.nil : Cods Unit := ⟨fun _ l _ => l = [], fun _ _ _ _ _ _ => rfl⟩
def Cods.cons {α β : Type} (c : Cod α) (d : Cods β) : Cods (α × β) := ⟨fun w l p => ∃ v r, l = v :: r ∧ c.rd w v p.1 ∧ d.rd w r p.2, fun w l p q => by
  rintro ⟨v, r, h1, h2, h3⟩ ⟨v', r', k1, k2, k3⟩
  rw [h1] at k1
  cases k1
  exact Prod.ext (c.inj _ _ _ _ h2 k2) (d.inj _ _ _ _ h3 k3)⟩
/-- A function that writes to nothing that was there. -/
def fnW {α : Type} (c : Cods α) (pre : α → World → Prop) (post : α → World → Value → World → Prop) : Contract where
  preW args w := ∃ a, c.rd w args a ∧ pre a w
  postW args w v w' := (∀ a, c.rd w args a → post a w v w') ∧ KeepsM (fun _ => False) w w'
/-- A function of values. -/
def fnP {α : Type} (enc : α → List Value) (dom : α → Prop) (out : α → Value → Prop) : Contract where
  pre args := ∃ a, dom a ∧ args = enc a
  post args v := ∀ a, dom a → args = enc a → out a v
theorem call_P {α : Type} {X : Ctx} {T : Table} {f : Nat} {enc : α → List Value} {dom : α → Prop} {out : α → Value → Prop} {K : Value → Prop} (hS : X.S = T.spec) (hT : T f = fnP enc dom out) (a : α) (hd : dom a)
    (hK : ∀ v, out a v → K v) : AskF X f (enc a) K := by
  have h1 : X.S.pre f (enc a) = (fnP enc dom out).pre (enc a) := by rw [hS]; show (T f).pre _ = _; rw [hT]
  have h2 : X.S.post f (enc a) = (fnP enc dom out).post (enc a) := by rw [hS]; show (T f).post _ = _; rw [hT]
  unfold AskF
  rw [h1, h2]
  exact askC_intro ⟨a, hd, rfl⟩ fun v hv => hK v (hv a hd rfl)
/-- A call that gives back just this. -/
theorem call_PE {α : Type} {X : Ctx} {T : Table} {f : Nat} {enc : α → List Value} {dom : α → Prop} {out : α → Value} {K : Value → Prop} (hS : X.S = T.spec) (hT : T f = fnP enc dom (fun a v => v = out a)) (a : α) (hd : dom a)
    (hK : K (out a)) : AskF X f (enc a) K := call_P hS hT a hd fun _ hv => hv ▸ hK
/-- A method of an interface value, by the contract of the function that it is. -/
theorem call_I {α : Type} {X : Ctx} {P : Program} {T : Table} {f : Nat} {enc : α → List Value} {dom : α → Prop} {out : α → Value} {x : Value} {m : String} {args : List Value} {K : Value → Prop} (hP : X.P = P) (hS : X.S = T.spec) (hT : T f = fnP enc dom (fun a v => v = out a)) (a : α) (hm : Meth P x m args f (enc a)) (hd : dom a)
    (hK : K (out a)) : AskI X x m args K := by
  subst hP
  obtain ⟨h1, h2⟩ := call_PE (K := K) hS hT a hd hK
  refine ⟨⟨f, _, hm, h1⟩, fun v hv => ?_⟩
  obtain ⟨f', ys', hm', hv⟩ := hv
  obtain ⟨rfl, rfl⟩ := hm.unique hm'
  exact h2 v hv
theorem call_W {α : Type} {X : Ctx} {T : Table} {f : Nat} {c : Cods α} {pre : α → World → Prop} {post : α → World → Value → World → Prop} {u : World} {ow : List Nat} {bl : List KB} {md : Bool} {args : List Value} {K : Value → World → Prop}
    (hX : Std X) (hS : X.S = T.spec) (hT : T f = fnW c pre post) (a : α) (hrd : ∀ w, KnownV X u ow bl w → c.rd w args a ∧ pre a w)
    (hK : ∀ v w w', KnownV X u ow bl w → Kn X w' → Stp [] w w' → Stp ow u w' → post a w v w' → K v w') : AskW X u ow bl md f args K := by
  have h1 : ∀ w, X.S.preW f args w = (fnW c pre post).preW args w := fun w => by rw [hS]; show (T f).preW _ _ = _; rw [hT]
  have h2 : ∀ w v w', X.S.postW f args w v w' = (fnW c pre post).postW args w v w' := fun w v w' => by rw [hS]; show (T f).postW _ _ _ _ = _; rw [hT]
  have h3 : ∀ w b, X.S.modW f args w b = False := fun w b => by rw [hS]; show (T f).modW _ _ _ = _; rw [hT]; rfl
  refine ask_callW (fun w hw => ⟨by rw [h1]; exact ⟨a, hrd w hw⟩, fun b hb => by rw [h3] at hb; exact hb.elim⟩) fun w v w' hw hp => ?_
  rw [h2] at hp
  obtain ⟨hp, hk⟩ := hp
  have hs := KeepsM.stp hk
  refine hK v w w' hw ⟨fun _ _ _ => rfl, Nat.le_refl _, fun b hb => ?_, Nat.le_trans hw.sz0 hk.size, hk.os.trans hw.os, hk.tape.trans hw.tape, hk.output.trans hw.output, fun _ h => by cases h⟩ hs ?_ (hp a (hrd w hw).1)
  · rcases Nat.lt_or_ge b w.heap.size with hlt | hge
    · rw [hk.block b hlt id]; exact hw.keep b hb
    · exact absurd ((hX b).2 (Nat.le_trans hw.sz0 hge)) hb
  · have := hw.stp.trans hs
    simpa using this
/-- A call of a func value, by the contract of the function that it stands for. -/
theorem call_V {α : Type} {X : Ctx} {T : Table} {f : Nat} {c : Cods α} {pre : α → World → Prop} {post : α → World → Value → World → Prop} {u : World} {ow : List Nat} {bl : List KB} {md : Bool} {x : Value} {p q : Array Value} {args : List Value} {K : Value → World → Prop}
    (hX : Std X) (hS : X.S = T.spec) (hx : x = .func (.func f) p q) (he : ∀ args w, (callFunc f args).run X.P w = .ok (.enter f args) w) (hT : T f = fnW c pre post) (a : α) (hrd : ∀ w, KnownV X u ow bl w → c.rd w (p.toList ++ args ++ q.toList) a ∧ pre a w)
    (hK : ∀ v w w', KnownV X u ow bl w → Kn X w' → Stp [] w w' → Stp ow u w' → post a w v w' → K v w') : AskV X u ow bl md x args K := by
  have h := call_W (md := md) (args := p.toList ++ args ++ q.toList) hX hS hT a hrd hK
  refine ⟨⟨f, p, q, hx, he, h.1⟩, fun v ⟨w, f', p', q', hw, hx', hp⟩ => h.2 v ⟨w, hw, ?_⟩⟩
  rw [hx] at hx'
  cases hx'
  exact hp
/-- A tree that holds, for a function by what its arguments read as. -/
theorem keepsW {P : Program} {G : World → Prop} {T : Table} {A : Ann} {f : FuncId} {α : Type} {c : Cods α} {pre : α → World → Prop} {post : α → World → Value → World → Prop} (hm : P.follows .mixedOrders = true) (hT : AllKeep P G T)
    (hG : ∀ w0 w : World, G w0 → (∀ b, b < w0.heap.size → w.heap[b]? = w0.heap[b]?) → w0.heap.size ≤ w.heap.size → G w)
    (he : ∀ f ∈ A.calls, ∀ args w, (callFunc f args).run P w = .ok (.enter f args) w) (heW : ∀ p ∈ A.callsW, ∀ args w, (callFunc p.1 args).run P w = .ok (.enter p.1 args) w)
    (h : ∀ args a w0, c.rd w0 args a → pre a w0 → G w0 → ∃ (sv : List SV) (blocks : List (Option Blk)) (gl : List (Nat × Nat)) (ne : Nat) (env : Env) (β : Nat → Nat) (nb : Nat),
      sv.map (·.den env β) = args ∧ blocks.length = nb ∧ (∀ X : Ctx, X.w0 = w0 → Mem X ⟨true, ne - 1, []⟩ blocks gl env β w0) ∧
      ∀ X : Ctx, X.P = P → X.S = T.spec → X.w0 = w0 → Std X → (∀ u ow bl v, (∀ w, KnownV X u ow bl w → post a w0 v w) → Ret X u ow bl v) →
        (run P A f sv blocks gl ne).den X env ne β nb (fun _ _ _ => False)) : Keeps1 P G f (fnW c pre post) := by
  refine ⟨fun args w hp => hp.elim, fun args w0 ⟨a, hrd, hpre⟩ hg => ?_⟩
  obtain ⟨sv, blocks, gl, ne, env, β, nb, hargs, hnb, hmem, hden⟩ := h args a w0 hrd hpre hg
  subst hnb
  have hgood : Good (ctx P G T w0 (fun _ => False) fun v w' => post a w0 v w' ∧ KeepsM (fun _ => False) w0 w') A := good_of hm hT (fun w h hs => hG w0 w hg (fun b hb => h b hb (fun h => h)) hs) he heW
  have h1 := run_sound (X := ctx P G T w0 (fun _ => False) fun v w' => post a w0 v w' ∧ KeepsM (fun _ => False) w0 w') hgood (hmem _ rfl)
    (hden _ rfl rfl rfl (fun b => ⟨fun h => h.elim id False.elim, .inl⟩) (fun u ow bl v hv w hw => ⟨hv w hw, known_keepsM hw⟩))
  rw [hargs] at h1
  refine h1.mono fun e w' ⟨v, he, hp, hk⟩ => ⟨v, he, ⟨fun a' ha' => ?_, hk⟩, hk⟩
  rw [c.inj _ _ _ _ ha' hrd]; exact hp
/-- A tree that holds, for a function of values. -/
theorem keepsP {P : Program} {G : World → Prop} {T : Table} {A : Ann} {f : FuncId} {α : Type} {enc : α → List Value} {dom : α → Prop} {out : α → Value → Prop} (hinj : ∀ a b, dom a → dom b → enc a = enc b → a = b) (hm : P.follows .mixedOrders = true) (hT : AllKeep P G T)
    (hG : ∀ w0 w : World, G w0 → (∀ b, b < w0.heap.size → w.heap[b]? = w0.heap[b]?) → w0.heap.size ≤ w.heap.size → G w)
    (he : ∀ f ∈ A.calls, ∀ args w, (callFunc f args).run P w = .ok (.enter f args) w) (heW : ∀ p ∈ A.callsW, ∀ args w, (callFunc p.1 args).run P w = .ok (.enter p.1 args) w)
    (h : ∀ a w0, dom a → G w0 → ∃ (sv : List SV) (blocks : List (Option Blk)) (gl : List (Nat × Nat)) (ne : Nat) (env : Env) (β : Nat → Nat) (nb : Nat),
      sv.map (·.den env β) = enc a ∧ blocks.length = nb ∧ (∀ X : Ctx, X.w0 = w0 → Mem X ⟨true, ne - 1, []⟩ blocks gl env β w0) ∧
      ∀ X : Ctx, X.P = P → X.S = T.spec → X.w0 = w0 → Std X → (∀ u ow bl v, out a v → Ret X u ow bl v) →
        (run P A f sv blocks gl ne).den X env ne β nb (fun _ _ _ => False)) : Keeps1 P G f (fnP enc dom out) := by
  refine ⟨fun args w0 ⟨a, hd, ha⟩ hg => ?_, fun args w hp => hp.elim⟩
  obtain ⟨sv, blocks, gl, ne, env, β, nb, hargs, hnb, hmem, hden⟩ := h a w0 hd hg
  subst hnb
  have hgood : Good (ctx P G T w0 (fun _ => False) fun v w' => out a v ∧ Below w0.heap.size w0 w') A := good_of hm hT (fun w h hs => hG w0 w hg (fun b hb => h b hb (fun h => h)) hs) he heW
  have h1 := run_sound (X := ctx P G T w0 (fun _ => False) fun v w' => out a v ∧ Below w0.heap.size w0 w') hgood (hmem _ rfl)
    (hden _ rfl rfl rfl (fun b => ⟨fun h => h.elim id False.elim, .inl⟩) (fun u ow bl v hv w hw => ⟨hv, known_below hw⟩))
  rw [hargs, ← ha] at h1
  refine h1.mono fun e w' ⟨v, he, hp, hk⟩ => ⟨v, he, fun a' hd' ha' => ?_, hk⟩
  rw [hinj _ _ hd' hd (ha'.symm.trans ha)]; exact hp
end Go.Vc

/-
  Scalars as numbers: S n is the array of n's four limbs.
-/
namespace Go.Vc
open Go Go.RowKit
/-- Limb i of n. -/
def lb (n i : Nat) : Nat := n / B64 ^ i % B64
def S (n : Nat) : Value := .agg #[U (lb n 0), U (lb n 1), U (lb n 2), U (lb n 3)]
abbrev W256 : Nat := 115792089237316195423570985008687907853269984665640564039457584007913129639936
theorem W256_eq : W256 = B64 ^ 4 := by decide
def encS (n : Nat) : List Value := [U (lb n 0), U (lb n 1), U (lb n 2), U (lb n 3)]
theorem encS_len (n : Nat) : (encS n).length = 4 := rfl
theorem S_enc (n : Nat) : S n = .agg (encS n).toArray := rfl
theorem lb_lt (n i : Nat) : lb n i < B64 := Nat.mod_lt _ (by decide)
theorem limbs_sum (n : Nat) (h : n < W256) : lb n 0 + B64 * lb n 1 + B64 ^ 2 * lb n 2 + B64 ^ 3 * lb n 3 = n := by
  unfold lb
  simp only [B64, W256] at *
  omega
theorem limbs_of {a b c d : Nat} (ha : a < B64) (hb : b < B64) (hc : c < B64) (hd : d < B64) :
    lb (a + B64 * b + B64 ^ 2 * c + B64 ^ 3 * d) 0 = a ∧ lb (a + B64 * b + B64 ^ 2 * c + B64 ^ 3 * d) 1 = b ∧ lb (a + B64 * b + B64 ^ 2 * c + B64 ^ 3 * d) 2 = c ∧ lb (a + B64 * b + B64 ^ 2 * c + B64 ^ 3 * d) 3 = d := by
  unfold lb
  simp only [B64] at *
  omega
/-- Any four limbs are a number's. -/
theorem S_of {a b c d : Nat} (ha : a < B64) (hb : b < B64) (hc : c < B64) (hd : d < B64) : Value.agg #[U a, U b, U c, U d] = S (a + B64 * b + B64 ^ 2 * c + B64 ^ 3 * d) := by
  obtain ⟨h0, h1, h2, h3⟩ := limbs_of ha hb hc hd
  unfold S
  rw [h0, h1, h2, h3]
theorem num_lt {a b c d : Nat} (ha : a < B64) (hb : b < B64) (hc : c < B64) (hd : d < B64) : a + B64 * b + B64 ^ 2 * c + B64 ^ 3 * d < W256 := by
  simp only [B64, W256] at *
  omega
theorem U_inj' {a b : Nat} (h : U a = U b) : a = b := by unfold U at h; simp at h; omega
theorem S_inj {a b : Nat} (ha : a < W256) (hb : b < W256) (h : S a = S b) : a = b := by
  unfold S at h
  simp only [Value.agg.injEq, Array.mk.injEq, List.cons.injEq, and_true] at h
  obtain ⟨h0, h1, h2, h3⟩ := h
  rw [← limbs_sum a ha, ← limbs_sum b hb, U_inj' h0, U_inj' h1, U_inj' h2, U_inj' h3]
theorem encS_inj {a b : Nat} (ha : a < W256) (hb : b < W256) (h : encS a = encS b) : a = b := S_inj ha hb (by rw [S_enc, S_enc, h])
/-- A scalar as an argument. -/
def cS : Cod Nat := ⟨fun _ v n => v = S n ∧ n < W256, fun _ _ _ _ h k => S_inj h.2 k.2 (h.1.symm.trans k.1)⟩
section
variable {P : Program} {K : Value → Prop} {n : Nat}
theorem ask_aggS : Ask (rAgg 4 (S n)) K = K (S n) := ask_agg rfl (by simp [U, Value.oneCell'])
theorem ask_selS0 : Ask (rSel (aggArr (S n)) 0 1 false) K = K (U (lb n 0)) := ask_sel1 rfl
theorem ask_selS1 : Ask (rSel (aggArr (S n)) 1 1 false) K = K (U (lb n 1)) := ask_sel1 rfl
theorem ask_selS2 : Ask (rSel (aggArr (S n)) 2 1 false) K = K (U (lb n 2)) := ask_sel1 rfl
theorem ask_selS3 : Ask (rSel (aggArr (S n)) 3 1 false) K = K (U (lb n 3)) := ask_sel1 rfl
theorem run_part_u {w : World} {e : TypeId} {k' : IntKind} (hu : P.underlying e = some (.int k')) (cs : Array Value) (k : Nat) (v : Value) (h : cs[k]? = some v) : (part e cs k).run P w = .ok v w := by
  have ha : agg? P e = some false := by simp [agg?, hu]
  have hr : (isAgg e).run P w = .ok false w := run_agg (X := ⟨P, ⟨fun _ _ => False, fun _ _ _ => False, fun _ _ _ => False, fun _ _ _ _ _ => False, fun _ _ _ _ => False⟩, fun _ => True, w, fun _ => True, fun _ _ => True⟩) ha w
  simp [part, hr, h]
theorem run_items_u {e : TypeId} (hu : P.underlying e = some (.int .u64)) {xs ys : Array Value} {k : Nat} {x y : Nat} (hx : xs[k]? = some (U x)) (hy : ys[k]? = some (U y)) (ks : List Nat) (w : World) :
    (Op.eqItems 9999 e 1 xs ys (k :: ks)).run P w = if x = y then (Op.eqItems 9999 e 1 xs ys ks).run P w else .ok false w := by
  have he : (Op.equalIn 9999 e (U x) (U y)).run P w = .ok ((x : Int) == (y : Int)) w := run_equalIn_int w 9998 e .u64 .u64 x y hu
  simp only [Op.eqItems, Sem.run_bind, Nat.mul_one, run_part_u hu xs k _ hx, run_part_u hu ys k _ hy, Result.andThen_ok, he]
  by_cases h : x = y
  · subst h; simp
  · have : ((x : Int) == (y : Int)) = false := by simp; omega
    simp [this, h]
theorem run_equal_u4 {t e : TypeId} {i : TypeInfo} (ht : P.underlying t = some (.array 4 e)) (hi : P.info? e = some i) (hs : i.size = 1) (hu : P.underlying e = some (.int .u64)) (a b c d a' b' c' d' : Nat) (w : World) :
    (Op.equal t (.agg #[U a, U b, U c, U d]) (.agg #[U a', U b', U c', U d'])).run P w = .ok (decide (a = a' ∧ b = b' ∧ c = c' ∧ d = d')) w := by
  have hc : P.cellsOf e = 1 := by simp [Program.cellsOf, hi, hs]
  show (Op.equalIn (9999 + 1) t _ _).run P w = _
  rw [run_equalIn_array w 9999 _ _ ht hi, hc]
  show (Op.eqItems 9999 e 1 _ _ [0, 1, 2, 3]).run P w = _
  rw [run_items_u hu (x := a) (y := a') rfl rfl, run_items_u hu (x := b) (y := b') rfl rfl, run_items_u hu (x := c) (y := c') rfl rfl, run_items_u hu (x := d) (y := d') rfl rfl]
  simp only [Op.eqItems, Sem.run_pure]
  by_cases h0 : a = a' <;> by_cases h1 : b = b' <;> by_cases h2 : c = c' <;> by_cases h3 : d = d' <;> simp [h0, h1, h2, h3]
theorem S_eq_iff {a b : Nat} (ha : a < W256) (hb : b < W256) : (lb a 0 = lb b 0 ∧ lb a 1 = lb b 1 ∧ lb a 2 = lb b 2 ∧ lb a 3 = lb b 3) ↔ a = b := by
  constructor
  · rintro ⟨h0, h1, h2, h3⟩
    exact S_inj ha hb (by unfold S; rw [h0, h1, h2, h3])
  · rintro rfl; exact ⟨rfl, rfl, rfl, rfl⟩
theorem run_equalS {t e : TypeId} {i : TypeInfo} (ht : P.underlying t = some (.array 4 e)) (hi : P.info? e = some i) (hs : i.size = 1) (hu : P.underlying e = some (.int .u64)) {a b : Nat} (ha : a < W256) (hb : b < W256) (w : World) :
    (Op.equal t (S a) (S b)).run P w = .ok (decide (a = b)) w := by
  have h := run_equal_u4 ht hi hs hu (lb a 0) (lb a 1) (lb a 2) (lb a 3) (lb b 0) (lb b 1) (lb b 2) (lb b 3) w
  rw [show decide (a = b) = decide (lb a 0 = lb b 0 ∧ lb a 1 = lb b 1 ∧ lb a 2 = lb b 2 ∧ lb a 3 = lb b 3) from by simp only [S_eq_iff ha hb]]
  exact h
/-- The type of four limbs. -/
structure A4 (P : Program) (t e : Nat) : Prop where
  ar : P.underlying t = some (.array 4 e)
  el : P.underlying e = some (.int .u64)
  sz : (P.info? e).map (·.size) = some 1
  gd : P.eqGuardType P.depth t = false
theorem A4.info {t e : Nat} (h : A4 P t e) : ∃ i, P.info? e = some i ∧ i.size = 1 := by
  have := h.sz
  cases hi : P.info? e with
  | none => rw [hi] at this; cases this
  | some i => rw [hi] at this; exact ⟨i, rfl, by simpa using this⟩
theorem ask_eqlS {t e : TypeId} {cx cy : Bool} (h4 : A4 P t e) {a b : Nat} (ha : a < W256) (hb : b < W256) :
    Ask (rBin P .eql t cx cy (S a) (S b)) K = K (.bool (decide (a = b))) :=
  ask_eq (runs_iff fun w => by
    obtain ⟨i, hi, hs⟩ := h4.info
    have h := run_equalS h4.ar hi hs h4.el ha hb w
    have hg := h4.gd
    unfold S at *
    simp [binSem, eqGuard, binOp, hg, h])
end
end Go.Vc

/-
  Lists in memory: pointers into slices, loads, new slices, appends; how lists are read.
-/
namespace Go.Vc
open Go Go.RowKit
/-- The pointer to the cell o of a slice. -/
def Ptr (v : Value) (o : Nat) : Value := match v with
  | .slice (some a) _ _ => .pointer (some ⟨a.block, a.off + o, none⟩)
  | _ => undef
/-- A slice's type, its element's, cells and bytes of that, its zero value. -/
structure ElTy (P : Program) (t e size bytes : Nat) (z : Value) : Prop where
  sl : P.underlying t = some (.slice e)
  el : (P.info? e).map (fun i => (i.size, i.bytes, i.zero)) = some (size, bytes, some z)
theorem ElTy.info {P : Program} {t e size bytes : Nat} {z : Value} (h : ElTy P t e size bytes z) : ∃ ie, P.info? e = some ie ∧ ie.size = size ∧ ie.bytes = bytes ∧ ie.zero = some z := by
  have := h.el
  cases hi : P.info? e with
  | none => rw [hi] at this; cases this
  | some ie =>
    rw [hi] at this
    simp only [Option.map_some, Option.some.injEq, Prod.mk.injEq] at this
    exact ⟨ie, rfl, this.1, this.2.1, this.2.2⟩
theorem ElTy.sz {P : Program} {t e size bytes : Nat} {z : Value} (h : ElTy P t e size bytes z) : sz P e = some size := by
  obtain ⟨ie, hi, hs, _⟩ := h.info
  simp [Vc.sz, hi, hs]
/-- A struct's type, a field, where it lies. -/
def FdTy (P : Program) (t f off : Nat) : Prop := ∃ s, (match P.underlying t with | some (.struct fs) => (fs[f]?).map (fun fd => (fd.offset, sz P fd.type)) | _ => none) = some (off, some (s + 1))
section
variable {X : Ctx} {P : Program} {u : World} {ow : List Nat} {bl : List KB} {K : Value → Prop} {KW : Value → World → Prop}
theorem a_len {t elem size bytes n : Nat} {z v : Value} {xs : List Value} {w : World} (hP : X.P = P) (hu : ElTy P t elem size bytes z) (h : SlAt w v n xs) (hK : K (.int .i64 n)) : Ask (rLen X.P t v) K := by
  rcases h with ⟨hv, hn, _⟩ | ⟨b, o, cap, hv, _⟩
  · subst hn; rw [hv, ask_len_sl (by rw [hP]; exact hu.sl)]; exact hK
  · rw [hv, ask_len_sl (by rw [hP]; exact hu.sl)]; exact hK
theorem a_iad {t elem n s bytes : Nat} {z v : Value} {xs : List Value} {w : World} {kd : IntKind} {i : Int} (hP : X.P = P) (hu : ElTy P t elem s bytes z) (h : SlAt w v n xs) (h0 : 0 ≤ i) (h1 : i < (n : Int)) (hK : K (Ptr v (i.toNat * s))) :
    Ask (rIad X.P t v (.int kd i)) K := by
  rcases h with ⟨hv, hn, _⟩ | ⟨b, o, cap, hv, _⟩
  · omega
  · subst hv
    rw [ask_iad_sl (by rw [hP]; exact hu.sl) (by rw [hP]; exact hu.sz) h0 h1]; exact hK
theorem a_iadN {t elem n s bytes i : Nat} {z v : Value} {xs : List Value} {w : World} (hP : X.P = P) (hu : ElTy P t elem s bytes z) (h : SlAt w v n xs) (h1 : i < n) (hK : K (Ptr v (i * s))) : Ask (rIad X.P t v (J i)) K :=
  a_iad hP hu h (by omega) (by omega) hK
theorem a_fad {t : TypeId} {f o off : Nat} {v : Value} {n : Nat} {xs : List Value} {w : World} (h : SlAt w v n xs) (hn : 0 < n) (hP : X.P = P) (hu : FdTy P t f off)
    (hK : K (Ptr v (o + off))) : Ask (rFad X.P t (Ptr v o) f) K := by
  rcases h with ⟨hv, hn', _⟩ | ⟨b, o', cap, hv, _⟩
  · omega
  · subst hv
    obtain ⟨s, hs⟩ := hu
    subst hP
    split at hs
    · rename_i fs hfs
      cases hf : fs[f]? with
      | none => rw [hf] at hs; cases hs
      | some fd =>
        rw [hf] at hs
        simp only [Option.map_some, Option.some.injEq, Prod.mk.injEq] at hs
        show Ask (rFad X.P t (.pointer (some ⟨b, o' + o, none⟩)) f) K
        rw [ask_fad hfs hf hs.2 (by omega), hs.1, Nat.add_assoc]; exact hK
    · cases hs
/-- An aggregate of a list that lies there. -/
theorem a_load_agg {t : TypeId} {o n : Nat} {v : Value} {xs cs : List Value} (hk : Kn X u) (h : SlAt u v n xs) (ht : agg? X.P t = some true) (hn : sz X.P t = some cs.length) (hb : ∀ b, v.ownBlock = some b → b ∉ ow)
    (h0 : cs ≠ []) (hc : ∀ (j : Nat) (c : Value), cs[j]? = some c → xs[o + j]? = some c) (hK : K (.agg cs.toArray)) : Ask (rLoad X u ow t (Ptr v o)) K := by
  rcases h with ⟨hv, hn', hx⟩ | ⟨b, o', cap, hv, _, hcell⟩
  · subst hx
    match cs, h0 with
    | c :: r, _ => have := hc 0 c rfl; simp at this
  · subst hv
    have hlt : b < u.heap.size := by
      match cs, h0 with
      | c :: r, _ => exact World.block_lt_of_cell? u _ (hcell _ _ (hc 0 c rfl))
    show Ask (rLoad X u ow t (.pointer (some ⟨b, o' + o, none⟩))) K
    rw [ask_load_agg ht hn hlt (hb b rfl) (fun j c hj => by rw [Nat.add_assoc]; exact hcell _ _ (hc j c hj)) hk.some]; exact hK
theorem a_load_one {t : TypeId} {o n : Nat} {v c : Value} {xs : List Value} (hk : Kn X u) (h : SlAt u v n xs) (ht : agg? X.P t = some false) (hb : ∀ b, v.ownBlock = some b → b ∉ ow)
    (hc : xs[o]? = some c) (hK : K c) : Ask (rLoad X u ow t (Ptr v o)) K := by
  rcases h with ⟨hv, hn', hx⟩ | ⟨b, o', cap, hv, _, hcell⟩
  · subst hx; simp at hc
  · subst hv
    have hlt : b < u.heap.size := World.block_lt_of_cell? u _ (hcell _ _ hc)
    show Ask (rLoad X u ow t (.pointer (some ⟨b, o' + o, none⟩))) K
    rw [ask_load_one ht hlt (hb b rfl) (hcell _ _ hc) hk.some]; exact hK
/-- A new slice. -/
theorem a_build {t e ty size bytes : Nat} {z : Value} {len : Nat} {parts : Array (Nat × Operand)} {args : List (Nat × Value)} (cells : Array Value)
    (hX : Std X) (hP : X.P = P) (hT : ElTy P t e size bytes z) (hsmall : ¬ len * size > 2 ^ 24) (hpos : ¬ len * size = 0)
    (hf : Instr.fill (fun i => some (i * size, size)) ((Array.range (len * size)).map (z.cells[· % z.cells.size]!)) (parts.map fun (i, x) => (i, argsFn args x)).toList = some cells)
    (hcs : cells.size = len * size) (hlen : len ≤ maxLen)
    (hK : ∀ g w w', KnownV X u ow bl w → Kn X w' → Stp [] w w' → Stp ow u w' → w'.ownsRow w.heap.size e size (.slice (some ⟨g, 0, none⟩) len len) len cells.toList → KW (.slice (some ⟨g, 0, none⟩) len len) w') :
    AskO X u ow bl false (.buildSlice t len parts) ty args KW := by
  subst hP
  obtain ⟨ie, hie, rfl, rfl, hz⟩ := hT.info
  refine ask_buildSlice cells ie z hT.sl hie hz hsmall hpos hf fun w hw => ?_
  have hs : Stp [] w (w.alloc (.cells cells e)) := ⟨by simp, fun b hb _ => heap_alloc_old w _ hb⟩
  refine hK _ w _ hw ⟨fun _ _ _ => rfl, Nat.le_refl _, fun b hb => ?_, Nat.le_trans hw.sz0 hs.size, hw.os, hw.tape, hw.output, fun _ h => by cases h⟩ hs (by simpa using hw.stp.trans hs) (World.ownsRow_lit w cells len (Nat.le_refl _) hlen hcs)
  have hlt : b < w.heap.size := by
    rcases Nat.lt_or_ge b w.heap.size with h | h
    · exact h
    · exact absurd ((hX b).2 (Nat.le_trans hw.sz0 h)) hb
  rw [hs.past b hlt (by simp)]; exact hw.keep b hb
end
/-! ### appends -/
/-- An append to a list of the call's own: what it yields; the block is the old one, or new. -/
theorem app_run {P : Program} (w : World) (base : Nat) (t ty e : TypeId) (i : TypeInfo) (z : Value) (bytes : Nat) (ht : P.underlying t = some (.slice e)) (hi : P.info? e = some i) (hz : i.zero = some z)
    (hby : i.bytes = bytes) (hzs : z.cells.size = i.size) (hsz : 0 < i.size) (v : Value) (n : Nat) (xs : List Value) (hown : w.ownsRow base e i.size v n xs)
    (x : Value) (m : Nat) (ys : List Value) (hx : SlAt w x m ys) (hl : ys.length = m * i.size) (h1 : ∀ c ∈ ys, c.oneCell' = true) (h63 : n + m ≤ maxLen) (hbytes : (n + m) * bytes ≤ 140737488355328) (hbase : base ≤ w.heap.size) :
    ∃ v' w', (Builtin.append_ #[t, t] ty #[v, x]).run P w = .ok v' w' ∧ w'.ownsRow base e i.size v' (n + m) (xs ++ ys) ∧ w.grownBy w' v.ownBlock ∧ (v'.ownBlock = v.ownBlock ∨ v'.ownBlock = some w.heap.size) := by
  rcases hx with ⟨rfl, rfl, rfl⟩ | ⟨b, o, cap, rfl, hm, hc⟩
  · exact ⟨v, w, run_append_owned_none w base t ty e i i.size ht hi v n xs hown, by simpa using hown, ⟨rfl, rfl, rfl, Nat.le_refl _, fun _ _ _ => rfl⟩, .inl rfl⟩
  · have hnews : ∀ j u, ys[j]? = some u → w.cell? ((⟨b, o, none⟩ : Addr).add j) = some u := fun j u hj => by rw [add_none]; exact hc j u hj
    obtain ⟨v', w', hr, h2, h3, _⟩ := run_append_own w base t ty e i z i.size bytes ht hi hz rfl hby hzs hsz v n xs hown ⟨b, o, none⟩ m cap ys hl hnews h1 h63 hbytes hbase
    refine ⟨v', w', hr, h2, h3, ?_⟩
    have hsmall : n + m ≤ 9223372036854775807 := by simp only [maxLen] at h63; omega
    subst hby
    rcases hown.2 with ⟨rfl, rfl⟩ | ⟨g, cp, cur, rfl, hbg, hg, hnc, hcm, hcs, htake⟩
    · rcases Nat.eq_zero_or_pos m with rfl | hm0
      · have : (Builtin.append_ #[t, t] ty #[.slice none 0 0, .slice (some ⟨b, o, none⟩) 0 cap]).run P w = .ok (.slice none 0 0) w := by
          simp [Builtin.append_, run_underlying ht, sizeOf, typeInfo, hi, Builtin.lenOf, Builtin.firstCells, loadCells, loadCellsFrom]
        rw [this] at hr; cases hr; exact .inl rfl
      · rw [run_append_nil (P := P) w t ty e i z ht hi hz ⟨b, o, none⟩ m cap ys hl hnews hm0 (by omega) (by have h := hbytes; rw [Nat.zero_add] at h; omega)] at hr
        cases hr; exact .inr rfl
    · by_cases hroom : n + m ≤ cp
      · have hfit : n * i.size + ys.length ≤ cur.size := by rw [hl, hcs, ← Nat.add_mul]; exact Nat.mul_le_mul_right _ hroom
        rw [run_append_room (P := P) w t ty e i ht hi g n cp cur hg ⟨b, o, none⟩ m cap ys hl hnews h1 hroom hfit] at hr
        cases hr; exact .inl rfl
      · rw [run_append_grow (P := P) w t ty e i z ht hi hz ⟨g, 0, none⟩ n cp xs hown.1 (hown.cells (g := g) rfl) ⟨b, o, none⟩ m cap ys hl hnews (by omega) (by omega) (growslice_fits (by omega) hbytes)] at hr
        cases hr; exact .inr rfl
section
variable {X : Ctx} {u : World} {ow : List Nat} {bl : List KB} {KW : Value → World → Prop}
/-- An append to a list of the call's own. -/
theorem a_append {P : Program} {t e ty size bytes : Nat} {a b : Operand} {l : List (Nat × Value)} {z : Value} {base n m : Nat} {v x : Value} {xs ys : List Value}
    (hX : Std X) (hP : X.P = P) (hT : ElTy P t e size bytes z) (e1 : argsFn l a = v) (e2 : argsFn l b = x) (hzs : z.cells.size = size) (hsz : 0 < size)
    (hb0 : X.w0.heap.size ≤ base) (hbase : base ≤ u.heap.size) (hown : u.ownsRow base e size v n xs) (hx : ∀ w, KnownV X u ow bl w → SlAt w x m ys) (hl : ys.length = m * size) (h1 : ∀ c ∈ ys, c.oneCell' = true)
    (hvo : ∀ g, v.ownBlock = some g → g ∉ ow) (hvb : ∀ w, KnownV X u ow bl w → ∀ g, v.ownBlock = some g → g ∉ bl.map (·.b))
    (h63 : n + m ≤ maxLen) (hbytes : (n + m) * bytes ≤ 140737488355328)
    (hK : ∀ v' w w', KnownV X u ow bl w → Kn X w' → Stp v.ownBlock.toList w w' → Stp (ow ++ v.ownBlock.toList) u w' → w'.ownsRow base e size v' (n + m) (xs ++ ys) → (v'.ownBlock = v.ownBlock ∨ v'.ownBlock = some w.heap.size) → KW v' w') :
    AskO X u ow bl true (appOp a b t) ty l KW := by
  subst hP
  obtain ⟨ie, hi, rfl, rfl, hz⟩ := hT.info
  have ht := hT.sl
  have key : ∀ w, KnownV X u ow bl w → ∃ v' w', (execOp (argsFn l) ⟨none, appOp a b t, ty, "", #[], none⟩).run X.P w = .ok (.value v') w' ∧
      w'.ownsRow base e ie.size v' (n + m) (xs ++ ys) ∧ w.grownBy w' v.ownBlock ∧ (v'.ownBlock = v.ownBlock ∨ v'.ownBlock = some w.heap.size) := fun w hw => by
    obtain ⟨v', w', hr, h2, h3, h4⟩ := app_run (P := X.P) w base t ty e ie z ie.bytes ht hi hz rfl hzs hsz v n xs (own_stp hown hw.stp hvo) x m ys (hx w hw) hl h1 h63 hbytes (Nat.le_trans hbase hw.size)
    refine ⟨v', w', ?_, h2, h3, h4⟩
    simp only [appOp, execOp, resolve, invoke, builtin, Sem.run_bind, Sem.run_pure, Result.andThen_ok, List.map_toArray, List.map_cons, List.map_nil, e1, e2, hr]
  have own0 : ∀ w, KnownV X u ow bl w → ∀ g, v.ownBlock = some g → X.mine g := fun w hw g hg => (hX g).2 (Nat.le_trans hb0 (hown.lt g hg).1)
  refine askE_intro (fun w hw => ?_) fun v' w' ⟨w, hw, hr⟩ => ?_
  · obtain ⟨v', w', hr, h2, h3, h4⟩ := key w hw
    refine ⟨v', w', hr, h3.os, h3.tape, h3.output, h3.size, fun g hg hm => h3.block g hg fun hh => ?_⟩
    rcases hm rfl with hm | hm
    · exact hm (own0 w hw g hh.symm)
    · exact hvb w hw g hh.symm hm
  · obtain ⟨v1, w1, hr1, h2, h3, h4⟩ := key w hw
    rw [hr1] at hr
    cases hr
    have hs : Stp v.ownBlock.toList w w' := ⟨h3.size, fun g hg hn => h3.block g hg fun hh => hn (by rw [← hh]; simp)⟩
    refine hK v' w w' hw ⟨fun _ _ _ => rfl, Nat.le_refl _, fun g hg => ?_, Nat.le_trans hw.sz0 h3.size, h3.os.trans hw.os, h3.tape.trans hw.tape, h3.output.trans hw.output, fun _ h => by cases h⟩ hs (hw.stp.trans hs) h2 h4
    rcases Nat.lt_or_ge g w.heap.size with hlt | hge
    · rw [h3.block g hlt fun hh => hg (own0 w hw g hh.symm)]; exact hw.keep g hg
    · exact absurd ((hX g).2 (Nat.le_trans hw.sz0 hge)) hg
end
section
variable {X : Ctx} {u : World} {bl bl' : List KB} {KW : Value → World → Prop}
end
section
variable {X : Ctx} {P : Program} {K : Value → Prop}
theorem slAt_form {w : World} {v : Value} {n : Nat} {xs : List Value} (h : SlAt w v n xs) : ∃ a cap, v = .slice a n cap ∧ n ≤ cap := by
  rcases h with ⟨rfl, rfl, _⟩ | ⟨b, o, cap, rfl, hn, _⟩
  · exact ⟨_, _, rfl, Nat.le_refl _⟩
  · exact ⟨_, _, rfl, hn.1⟩
end
/-! ### how lists are read -/
theorem flat_at {α : Type} {enc : α → List Value} {s : Nat} (hlen : ∀ x, (enc x).length = s) : ∀ (l : List α) (k : Nat) (x : α), l[k]? = some x → ∀ (j : Nat) (c : Value), (enc x)[j]? = some c → (l.flatMap enc)[k * s + j]? = some c
  | [], k, x, h, _, _, _ => by simp at h
  | y :: r, 0, x, h, j, c, hj => by
    simp at h; subst h
    rw [List.flatMap_cons, Nat.zero_mul, Nat.zero_add, List.getElem?_append_left (by rw [List.getElem?_eq_some_iff] at hj; exact hj.1)]
    exact hj
  | y :: r, k + 1, x, h, j, c, hj => by
    rw [List.flatMap_cons, List.getElem?_append_right (by rw [hlen y, Nat.succ_mul]; omega), hlen y, show (k + 1) * s + j - s = k * s + j by rw [Nat.succ_mul]; omega]
    exact flat_at hlen r k x (by simpa using h) j c hj
theorem flat_len {α : Type} {enc : α → List Value} {s : Nat} (hlen : ∀ x, (enc x).length = s) (l : List α) : (l.flatMap enc).length = l.length * s := by
  induction l with
  | nil => simp
  | cons x r ih => rw [List.flatMap_cons, List.length_append, ih, hlen, List.length_cons, Nat.succ_mul]; omega
theorem flat_inj {α : Type} {enc : α → List Value} {ok : α → Prop} {s : Nat} (hlen : ∀ x, (enc x).length = s) (hinj : ∀ a b, ok a → ok b → enc a = enc b → a = b) : ∀ (l m : List α), (∀ x ∈ l, ok x) → (∀ x ∈ m, ok x) → l.length = m.length → l.flatMap enc = m.flatMap enc → l = m
  | [], [], _, _, _, _ => rfl
  | [], _ :: _, _, _, h, _ => by simp at h
  | _ :: _, [], _, _, h, _ => by simp at h
  | a :: l, b :: m, h1, h2, h3, h4 => by
    rw [List.flatMap_cons, List.flatMap_cons] at h4
    obtain ⟨e1, e2⟩ := List.append_inj h4 (by rw [hlen, hlen])
    rw [hinj a b (h1 a (by simp)) (h2 b (by simp)) e1, flat_inj hlen hinj l m (fun x hx => h1 x (by simp [hx])) (fun x hx => h2 x (by simp [hx])) (by simpa using h3) e2]
theorem slAt_inj {w : World} {v : Value} {n m : Nat} {xs ys : List Value} (hl : xs.length = ys.length) (h : SlAt w v n xs) (k : SlAt w v m ys) : n = m ∧ xs = ys := by
  rcases h with ⟨hv, hn, hx⟩ | ⟨b, o, cap, hv, hn, hc⟩
  · rcases k with ⟨_, kn, ky⟩ | ⟨b', o', cap', kv, _⟩
    · exact ⟨hn.trans kn.symm, hx.trans ky.symm⟩
    · rw [hv] at kv; cases kv
  · rcases k with ⟨kv, _⟩ | ⟨b', o', cap', kv, _, kc⟩
    · rw [hv] at kv; cases kv
    · rw [hv] at kv
      cases kv
      refine ⟨rfl, List.ext_getElem? fun i => ?_⟩
      rcases Nat.lt_or_ge i xs.length with hi | hi
      · have h1 := hc i xs[i] (List.getElem?_eq_getElem hi)
        have h2 := kc i ys[i] (List.getElem?_eq_getElem (by omega))
        rw [h1] at h2
        rw [List.getElem?_eq_getElem hi, List.getElem?_eq_getElem (by omega), ← h2]
      · rw [List.getElem?_eq_none hi, List.getElem?_eq_none (by omega)]
theorem slAt_len {w : World} {v : Value} {n m : Nat} {xs ys : List Value} (h : SlAt w v n xs) (k : SlAt w v m ys) : n = m := by
  rcases h with ⟨hv, hn, hx⟩ | ⟨b, o, cap, hv, _⟩
  · rcases k with ⟨_, kn, ky⟩ | ⟨b', o', cap', kv, _⟩
    · exact hn.trans kn.symm
    · rw [hv] at kv; cases kv
  · rcases k with ⟨kv, _⟩ | ⟨b', o', cap', kv, _⟩
    · rw [hv] at kv; cases kv
    · rw [hv] at kv; cases kv; rfl
/-- A slice of plain elements. -/
def Ls {α : Type} (enc : α → List Value) (ok : α → Prop) (w : World) (v : Value) (l : List α) : Prop := SlAt w v l.length (l.flatMap enc) ∧ ∀ x ∈ l, ok x
def cL {α : Type} (enc : α → List Value) (ok : α → Prop) (s : Nat) (hlen : ∀ x, (enc x).length = s) (hinj : ∀ a b, ok a → ok b → enc a = enc b → a = b) : Cod (List α) :=
  ⟨fun w v l => Ls enc ok w v l, fun w v a b h k => by
    have hl : a.length = b.length := slAt_len h.1 k.1
    exact flat_inj hlen hinj a b h.2 k.2 hl (slAt_inj (by rw [flat_len hlen, flat_len hlen, hl]) h.1 k.1).2⟩
theorem Ls.stp {α : Type} {enc : α → List Value} {ok : α → Prop} {ex : List Nat} {u w : World} {v : Value} {l : List α} (h : Ls enc ok u v l) (hs : Stp ex u w) (hb : ∀ b, v.ownBlock = some b → b ∉ ex) : Ls enc ok w v l := ⟨h.1.stp hs hb, h.2⟩
theorem Ls.stp0 {α : Type} {enc : α → List Value} {ok : α → Prop} {u w : World} {v : Value} {l : List α} (h : Ls enc ok u v l) (hs : Stp [] u w) : Ls enc ok w v l := ⟨h.1.stp0 hs, h.2⟩
/-- What is read so is read so in all later memory. -/
def Cod.Stable {α : Type} (c : Cod α) : Prop := ∀ u w v a, Stp [] u w → c.rd u v a → c.rd w v a
theorem cL_stable {α : Type} {enc : α → List Value} {ok : α → Prop} {s : Nat} {hlen : ∀ x, (enc x).length = s} {hinj : ∀ a b, ok a → ok b → enc a = enc b → a = b} : (cL enc ok s hlen hinj).Stable := fun _ _ _ _ hs h => Ls.stp0 h hs
/-! ### lists of scalars -/
def okS (n : Nat) : Prop := n < W256
def cLS : Cod (List Nat) := cL encS okS 4 encS_len (fun _ _ ha hb h => encS_inj ha hb h)
abbrev LsS := Ls encS okS
end Go.Vc

/-
  Small rules for walking a tree.
-/
namespace Go.Vc
open Go Go.RowKit
theorem mem_none {X : Ctx} {w0 : World} {ne : Nat} {env : Env} {β : Nat → Nat} (hX : X.w0 = w0) (he : (env (ne - 1)).2 = w0) : Mem X ⟨true, ne - 1, []⟩ [] [] env β w0 := by
  subst hX
  exact mem0 he (fun k b h => by simp at h) (fun g k h => by simp at h)
theorem a_if {c : Bool} {A B : Prop} (hA : c = true → A) (hB : c = false → B) : (∃ t, Value.bool c = .bool t) ∧ (Value.bool c = .bool true → A) ∧ (Value.bool c = .bool false → B) :=
  ⟨⟨c, rfl⟩, fun h => hA (by cases h; rfl), fun h => hB (by cases h; rfl)⟩
theorem a_ifD {p : Prop} [Decidable p] {A B : Prop} (hA : p → A) (hB : ¬ p → B) : (∃ t, Value.bool (decide p) = .bool t) ∧ (Value.bool (decide p) = .bool true → A) ∧ (Value.bool (decide p) = .bool false → B) :=
  a_if (fun h => hA (of_decide_eq_true h)) (fun h => hB (of_decide_eq_false h))
section
variable {P : Program} {K : Value → Prop} {kd : IntKind}
theorem ask_ixN {m k : Nat} (h : k < m) : Ask (rIx m (.int kd (k : Int))) K = K (.int kd (k : Int)) :=
  ask_eq fun v => ⟨fun hv => hv.1, fun hv => ⟨hv, kd, k, rfl, by omega, by omega⟩⟩
theorem ask_selSk {n k : Nat} (h : k < 4) : Ask (rSel (aggArr (S n)) (0 + intNat (.int kd (k : Int)) * 1) 1 false) K = K (U (lb n k)) := by
  have : 0 + intNat (.int kd (k : Int)) * 1 = k := by simp [intNat]
  rw [this]
  match k, h with
  | 0, _ => exact ask_selS0
  | 1, _ => exact ask_selS1
  | 2, _ => exact ask_selS2
  | 3, _ => exact ask_selS3
theorem ask_zero4 : Ask (rAgg 4 (.agg #[U 0, U 0, U 0, U 0])) K = K (S 0) := ask_agg rfl (by simp [U, Value.oneCell'])
end
theorem wrap_i64 {n : Int} (h0 : -(2 ^ 63) ≤ n) (h1 : n < 2 ^ 63) : IntKind.i64.wrap n = n := by
  simp only [IntKind.wrap, IntKind.bits, IntKind.signed]
  simp
  omega
section
variable {P : Program} {K : Value → Prop} {t : TypeId} {cx cy : Bool}
/-- Counting up. -/
theorem ask_succ {k : Nat} (h : k + 1 < 2 ^ 63) : Ask (rBin P .add t cx cy (J k) (J 1)) K = K (J (k + 1)) := by
  rw [ask_add, wrap_i64 (by omega) (by omega)]; rfl
theorem ask_addN {a b : Nat} (h : a + b < 2 ^ 63) : Ask (rBin P .add t cx cy (J a) (J b)) K = K (J (a + b)) := by
  rw [ask_add, wrap_i64 (by omega) (by omega)]; rfl
theorem ask_subN {a b : Nat} (h : b ≤ a) (ha : a < 2 ^ 63) : Ask (rBin P .sub t cx cy (J a) (J b)) K = K (J (a - b)) := by
  rw [ask_sub, wrap_i64 (by omega) (by omega), ← Int.ofNat_sub h]
theorem ask_mulN {a b : Nat} (h : a * b < 2 ^ 63) : Ask (rBin P .mul t cx cy (J a) (J b)) K = K (J (a * b)) := by
  rw [ask_mul, ← Int.natCast_mul, wrap_i64 (by omega) (by omega)]
theorem ask_umask {a m k : Nat} (ha : a < B64) (hm : m + 1 = 2 ^ k) (hk : m < B64) : Ask (rBin P .and t cx cy (U a) (U m)) K = K (U (a % 2 ^ k)) := by
  rw [ask_uand ha hk, ← Nat.and_two_pow_sub_one_eq_mod, ← hm, Nat.add_sub_cancel]
theorem or_low {a b k : Nat} (ha : a % 2 ^ k = 0) (hb : b < 2 ^ k) : a ||| b = a + b := by
  have h := Nat.two_pow_add_eq_or_of_lt hb (a / 2 ^ k)
  have e : 2 ^ k * (a / 2 ^ k) = a := by have := Nat.div_add_mod a (2 ^ k); omega
  rw [e] at h
  exact h.symm
theorem ask_lssN {a b : Nat} : Ask (rBin P .lss t cx cy (.int .i64 (a : Int)) (.int .i64 (b : Int))) K = K (.bool (decide (a < b))) := by
  rw [ask_lss]; simp
theorem ask_neqN {a b : Nat} : Ask (rBin P .neq t cx cy (.int .i64 (a : Int)) (.int .i64 (b : Int))) K = K (.bool (!decide (a = b))) := by
  rw [ask_neq]; congr 2; rw [Bool.eq_iff_iff]; simp; omega
end
section
variable {X : Ctx} {P : Program} {K : Value → Prop} {KW : Value → World → Prop} {u : World} {ow : List Nat} {bl : List KB} {g : List (Value × Bool)}
theorem a_sel1 {cs : List Value} {pos : Nat} {v : Value} (h : cs[pos]? = some v) (hK : K v) : Ask (rSel (aggArr (.agg cs.toArray)) pos 1 false) K := by
  rw [ask_sel1 (v := v) (by simpa [aggArr] using h)]; exact hK
theorem a_selL {cs ds : List Value} {pos m : Nat} (h : (cs.drop pos).take m = ds) (hm : pos + m ≤ cs.length) (hK : K (.agg ds.toArray)) : Ask (rSel (aggArr (.agg cs.toArray)) pos m true) K := by
  have : Ask (rSel (aggArr (.agg cs.toArray)) pos m true) K = K (.agg ds.toArray) := ask_eq fun v => by
    unfold rSel
    have e : (aggArr (.agg cs.toArray)).extract pos (pos + m) = ds.toArray := by
      apply Array.ext'
      simp only [aggArr, Array.toList_extract, List.extract_eq_take_drop, Nat.add_sub_cancel_left, h]
    rw [e]
    exact ⟨fun h => h.2, fun h => ⟨by simpa [aggArr] using hm, h⟩⟩
  rw [this]; exact hK
theorem a_plain {x : Value} (h : x.oneCell' = true) (hK : K x) : Ask (rPlain x) K := by rw [ask_plain h]; exact hK
theorem a_agg {n : Nat} {cs : List Value} (h1 : cs.length = n) (h2 : cs.all (·.oneCell') = true) (hK : K (.agg cs.toArray)) : Ask (rAgg n (.agg cs.toArray)) K := by
  rw [ask_agg (by simpa using h1) (by simpa using h2)]; exact hK
theorem a_bld {t : TypeId} {parts : Array (Nat × Value)} (cells : Array Value) (hP : X.P = P) (h : P.built t parts.toList = some cells) (hK : K (.agg cells)) : Ask (rBld X.P t parts) K := by
  subst hP
  have e : Ask (rBld X.P t parts) K = K (.agg cells) := ask_eq (runs_iff fun w => run_build w t parts cells h)
  rw [e]; exact hK
theorem condsV1 {a : Bool} : condsV [(.bool a, a)] := fun x hx => by simp only [List.mem_singleton] at hx; rw [hx]
theorem condsV1_not {a b : Bool} (h : a ≠ b) : ¬ condsV [(.bool a, b)] := fun hc => h (by have := hc (.bool a, b) (by simp); simpa using this)
theorem a_GW_on {md : Bool} {f : Nat} {args : List Value} (h : condsV g) (hA : AskW X u ow bl md f args KW) : AskGW X g u ow bl md f args KW := ⟨fun _ => hA.1, fun v hv => hA.2 v (hv.1 h)⟩
theorem a_GF_on {f : Nat} {args : List Value} (h : condsV g) (hA : AskF X f args K) : AskGF X g f args K := ⟨fun _ => hA.1, fun v hv => hA.2 v (hv.1 h)⟩
theorem a_GF_off {f : Nat} {args : List Value} (h : ¬ condsV g) (hK : ∀ v, K v) : AskGF X g f args K := ⟨fun hc => absurd hc h, fun v _ => hK v.1⟩
theorem a_G_on {R : Value → Prop} (h : condsV g) (hA : Ask R K) : AskG g R K := ⟨fun _ => hA.1, fun v hv => hA.2 v (hv.1 h)⟩
theorem a_G_off {R : Value → Prop} (h : ¬ condsV g) (hK : ∀ v, K v) : AskG g R K := ⟨fun hc => absurd hc h, fun v _ => hK v.1⟩
theorem ask_pickT {a b : Value} : Ask (rPick (.bool true) a b) K = K a := ask_eq fun v => ⟨fun h => h.1 rfl, fun h => ⟨fun _ => h, fun h' => by (cases h'), true, rfl⟩⟩
theorem ask_pickF {a b : Value} : Ask (rPick (.bool false) a b) K = K b := ask_eq fun v => ⟨fun h => h.2.1 rfl, fun h => ⟨fun h' => by (cases h'), fun _ => h, false, rfl⟩⟩
end
theorem slAt_one {w : World} {v : Value} {n : Nat} {xs : List Value} (h : SlAt w v n xs) : v.oneCell' = true := by
  rcases h with ⟨rfl, _⟩ | ⟨b, o, cap, rfl, _⟩ <;> rfl
theorem own_one {w : World} {base size n : Nat} {e : TypeId} {v : Value} {xs : List Value} (h : w.ownsRow base e size v n xs) : v.oneCell' = true := slAt_one (own_slAt h)
/-- A variable was there before the list. -/
theorem KnownV.low {X : Ctx} {u w : World} {ow : List Nat} {bl : List KB} (h : KnownV X u ow bl w) {b : Nat} (hb : b ∈ bl.map (·.b)) : b < w.heap.size := by
  obtain ⟨kb, hkb, rfl⟩ := List.mem_map.1 hb
  exact (h.blk kb hkb).2.1
theorem all1 {p : Nat → Prop} {b : Nat} (h : p b) : ∀ x ∈ [b], p x := fun x hx => by simp only [List.mem_singleton] at hx; rw [hx]; exact h
section
variable {P : Program} {K : Value → Prop}
end
/-- What is newer than u is no change behind u. -/
theorem Stp.drop {ex : List Nat} {u w : World} (h : Stp ex u w) (hb : ∀ b ∈ ex, u.heap.size ≤ b) : Stp [] u w :=
  ⟨h.size, fun b hlt _ => h.past b hlt fun hm => by have := hb b hm; omega⟩
section
variable {X : Ctx} {K : Value → Prop} {KW : Value → World → Prop} {u : World} {ow : List Nat} {bl : List KB} {g : List (Value × Bool)}
end
end Go.Vc
