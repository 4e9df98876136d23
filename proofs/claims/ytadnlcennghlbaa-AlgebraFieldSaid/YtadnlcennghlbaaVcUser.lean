/-
  The engine's face: names for what nodes say, and rules for them.
-/
import Derived.Test.YtadnlcennghlbaaVcSound10
namespace Go.Vc
open Go Go.RowKit
def rBin (P : Program) (op : BinOp) (t : TypeId) (cx cy : Bool) (x y v : Value) : Prop := Runs P (binSem op t cx cy x y) v
def rUn (P : Program) (op : UnOp) (x v : Value) : Prop := Runs P (Op.unary op x) v
def rExt (P : Program) (x : Value) (i : Nat) (v : Value) : Prop := Runs P (Instr.extract x i) v
def rIad (P : Program) (t : TypeId) (x i v : Value) : Prop := Runs P (Instr.indexAt t x i) v
def rSlc (P : Program) (t : TypeId) (x : Value) (lo hi mx : Option Value) (v : Value) : Prop := Runs P (Instr.sliceAt t x lo hi mx) v
def rLen (P : Program) (t : TypeId) (x v : Value) : Prop := Runs P (Builtin.len_ #[t] 3 #[x]) v
def rPick (c a b v : Value) : Prop := (c = .bool true → v = a) ∧ (c = .bool false → v = b) ∧ ∃ t, c = .bool t
def rGen (P : Program) (op : Op) (ty : TypeId) (args : List (Nat × Value)) (v : Value) : Prop := RunsN P (execOp (argsFn args) ⟨none, op, ty, "", #[], none⟩) v
def rSel (c : Array Value) (pos m : Nat) (agg : Bool) (v : Value) : Prop := pos + m ≤ c.size ∧ v = (if agg then .agg (c.extract pos (pos + m)) else c.getD pos undef)
def rAgg (n : Nat) (x v : Value) : Prop := v = x ∧ ∃ arr : Array Value, x = .agg arr ∧ arr.size = n ∧ arr.all (·.oneCell') = true
def rPlain (x v : Value) : Prop := v = x ∧ x.oneCell' = true
def rLoad (X : Ctx) (u : World) (ow : List Nat) (t : TypeId) (x v : Value) : Prop := ∀ w, KnownV X u ow [] w → (Instr.loadAt t x).run X.P w = .ok v w
/-- The call ends, and what it hands back is as wanted. -/
def Ret (X : Ctx) (u : World) (ow : List Nat) (bl : List KB) (v : Value) : Prop := ∀ w, KnownV X u ow bl w → X.R v w
/-- An effect: what it is, from which worlds; what it yields. -/
def preEff (X : Ctx) (u : World) (ow : List Nat) (bl : List KB) (md : Bool) (op : Op) (ty : TypeId) (args : List (Nat × Value)) : Prop :=
  ∀ w, KnownV X u ow bl w → ∃ v w', (execOp (argsFn args) ⟨none, op, ty, "", #[], none⟩).run X.P w = .ok (effOut op v) w' ∧ Keeps X md (bl.map (·.b)) w w'
def rEff (X : Ctx) (u : World) (ow : List Nat) (bl : List KB) (op : Op) (ty : TypeId) (args : List (Nat × Value)) (v : Value) (w' : World) : Prop :=
  ∃ w, KnownV X u ow bl w ∧ (execOp (argsFn args) ⟨none, op, ty, "", #[], none⟩).run X.P w = .ok (effOut op v) w'
def preCall (X : Ctx) (u : World) (ow : List Nat) (bl : List KB) (md : Bool) (f : Nat) (args : List Value) : Prop :=
  ∀ w, KnownV X u ow bl w → X.S.preW f args w ∧ ∀ b, X.S.modW f args w b → md = true ∧ X.mine b ∧ b ∉ bl.map (·.b)
def rCall (X : Ctx) (u : World) (ow : List Nat) (bl : List KB) (f : Nat) (args : List Value) (v : Value) (w' : World) : Prop :=
  ∃ w, KnownV X u ow bl w ∧ X.S.postW f args w v w'
def Ask (R K : Value → Prop) : Prop := (∃ v : Val, R v.1) ∧ ∀ v : Val, R v.1 → K v.1
def AskC (pre : Prop) (R K : Value → Prop) : Prop := pre ∧ ∀ v : Val, R v.1 → K v.1
def AskE (pre : Prop) (R K : Value → World → Prop) : Prop := pre ∧ ∀ v : Val, R v.1 v.2 → K v.1 v.2
def AskG (g : List (Value × Bool)) (R K : Value → Prop) : Prop := (condsV g → ∃ v : Val, R v.1) ∧ ∀ v : Val, (condsV g → R v.1) ∧ (¬ condsV g → True) → K v.1
def AskGC (g : List (Value × Bool)) (pre : Prop) (R K : Value → Prop) : Prop := (condsV g → pre) ∧ ∀ v : Val, (condsV g → R v.1) ∧ (¬ condsV g → True) → K v.1
def AskNew (u : World) (K : Nat → Prop) : Prop := ∀ b, u.heap.size ≤ b → K b
def Again (X : Ctx) (u : World) (ow : List Nat) (bl : List KB) (K : World → Prop) : Prop := ∀ w, KnownV X u ow bl w → K w
theorem ask_eq {R K : Value → Prop} {e : Value} (h : ∀ v, R v ↔ v = e) : Ask R K = K e := by
  unfold Ask
  apply propext
  simp only [h]
  exact ⟨fun hk => hk.2 (e, default) rfl, fun hk => ⟨⟨(e, default), rfl⟩, fun _ hv => hv ▸ hk⟩⟩
theorem askC_intro {pre : Prop} {R K : Value → Prop} (h1 : pre) (h2 : ∀ v, R v → K v) : AskC pre R K := ⟨h1, fun v hv => h2 v.1 hv⟩
theorem askE_intro {pre : Prop} {R K : Value → World → Prop} (h1 : pre) (h2 : ∀ v w, R v w → K v w) : AskE pre R K := ⟨h1, fun v hv => h2 v.1 v.2 hv⟩
theorem runs_iff {P : Program} {s : Sem Value} {e : Value} (h : ∀ w, s.run P w = .ok e w) (v : Value) : Runs P s v ↔ v = e := by
  refine ⟨fun hv => ?_, fun he w => he ▸ h w⟩
  have := hv default
  rw [h default] at this
  cases this; rfl
theorem runsN_iff {P : Program} {s : Sem Next} {e : Value} (h : ∀ w, s.run P w = .ok (.value e) w) (v : Value) : RunsN P s v ↔ v = e := by
  refine ⟨fun hv => ?_, fun he w => he ▸ h w⟩
  have := hv default
  rw [h default] at this
  cases this; rfl
section rules
variable {P : Program} {K : Value → Prop} {t : TypeId} {cx cy : Bool} {k : IntKind} {a b : Int}
theorem ask_add : Ask (rBin P .add t cx cy (.int k a) (.int k b)) K = K (.int k (k.wrap (a + b))) := ask_eq (runs_iff fun w => by simp [binSem, eqGuard, binOp, Op.intArith])
theorem ask_sub : Ask (rBin P .sub t cx cy (.int k a) (.int k b)) K = K (.int k (k.wrap (a - b))) := ask_eq (runs_iff fun w => by simp [binSem, eqGuard, binOp, Op.intArith])
theorem ask_mul : Ask (rBin P .mul t cx cy (.int k a) (.int k b)) K = K (.int k (k.wrap (a * b))) := ask_eq (runs_iff fun w => by simp [binSem, eqGuard, binOp, Op.intArith])
theorem ask_lss : Ask (rBin P .lss t cx cy (.int k a) (.int k b)) K = K (.bool (decide (a < b))) := ask_eq (runs_iff fun w => by simp [binSem, eqGuard, binOp, Op.intCmp])
theorem ask_geq : Ask (rBin P .geq t cx cy (.int k a) (.int k b)) K = K (.bool (decide (b ≤ a))) := ask_eq (runs_iff fun w => by simp [binSem, eqGuard, binOp, Op.intCmp])
theorem ask_eql : Ask (rBin P .eql t cx cy (.int k a) (.int k b)) K = K (.bool (a == b)) := ask_eq (runs_iff fun w => by simp [binSem, eqGuard, binOp, Op.intCmp])
theorem ask_neq : Ask (rBin P .neq t cx cy (.int k a) (.int k b)) K = K (.bool (a != b)) := ask_eq (runs_iff fun w => by simp [binSem, eqGuard, binOp, Op.intCmp])
theorem ask_ext {vs : Array Value} {i : Nat} {v : Value} (h : vs[i]? = some v) : Ask (rExt P (.tuple vs) i) K = K v := ask_eq (runs_iff fun w => by simp [Instr.extract, h])
theorem ask_plain {x : Value} (h : x.oneCell' = true) : Ask (rPlain x) K = K x := ask_eq fun _ => ⟨fun hv => hv.1, fun hv => ⟨hv, h⟩⟩
theorem ask_agg {n : Nat} {arr : Array Value} (h1 : arr.size = n) (h2 : arr.all (·.oneCell') = true) : Ask (rAgg n (.agg arr)) K = K (.agg arr) := ask_eq fun _ => ⟨fun hv => hv.1, fun hv => ⟨hv, arr, rfl, h1, h2⟩⟩
theorem ask_not {x : Bool} : Ask (rUn P .not (.bool x)) K = K (.bool !x) := ask_eq (runs_iff fun w => by simp [Op.unary])
theorem ask_sel1 {c : Array Value} {pos : Nat} {v : Value} (h : c[pos]? = some v) : Ask (rSel c pos 1 false) K = K v := ask_eq fun u => by
  have hlt : pos < c.size := by
    rcases Nat.lt_or_ge pos c.size with h' | h'
    · exact h'
    · rw [Array.getElem?_eq_none h'] at h; cases h
  have hv : c.getD pos undef = v := by simp [Array.getD, hlt]; rw [Array.getElem?_eq_getElem hlt] at h; simpa using h
  unfold rSel
  simp only [Bool.false_eq_true, if_false, hv]
  exact ⟨fun h => h.2, fun h => ⟨by omega, h⟩⟩
end rules
end Go.Vc
