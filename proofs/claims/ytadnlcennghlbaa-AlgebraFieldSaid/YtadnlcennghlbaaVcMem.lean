/-
  What a user is told of worlds: rules for effects; slices that lie in memory.
-/
import Derived.Test.YtadnlcennghlbaaVcUser
import Derived.Great.BuildSlice
import Derived.Laws.AppendOwn
namespace Go.Vc
open Go Go.RowKit
section
variable {X : Ctx} {u : World} {ow : List Nat} {bl : List KB} {K : Value → World → Prop}
theorem keeps_alloc (X : Ctx) (tr : List Nat) (w : World) (o : Obj) : Keeps X false tr w (w.alloc o) where
  os := rfl
  tape := rfl
  output := rfl
  size := by simp
  block := fun b hb _ => heap_alloc_old w o hb
/-- An effect that runs to this value and this world, from every world that is known. -/
theorem askE_run {md : Bool} {op : Op} {ty : TypeId} {args : List (Nat × Value)} (hm : mute op = false) (v : World → Value) (w' : World → World)
    (hrun : ∀ w, KnownV X u ow bl w → (execOp (argsFn args) ⟨none, op, ty, "", #[], none⟩).run X.P w = .ok (.value (v w)) (w' w) ∧ Keeps X md (bl.map (·.b)) w (w' w))
    (hK : ∀ w, KnownV X u ow bl w → K (v w) (w' w)) : AskE (preEff X u ow bl md op ty args) (rEff X u ow bl op ty args) K := by
  have ho : ∀ x, effOut op x = .value x := fun x => by unfold effOut; rw [hm]; rfl
  refine askE_intro (fun w hw => ⟨v w, w' w, by rw [ho]; exact (hrun w hw).1, (hrun w hw).2⟩) fun x y ⟨w, hw, hr⟩ => ?_
  rw [ho, (hrun w hw).1] at hr
  cases hr
  exact hK w hw
theorem ask_buildSlice {t e ty : TypeId} {len : Nat} {parts : Array (Nat × Operand)} {args : List (Nat × Value)} (cells : Array Value) (ie : TypeInfo) (z : Value)
    (hu : X.P.underlying t = some (.slice e)) (hie : X.P.info? e = some ie) (hz : ie.zero = some z) (hsmall : ¬ len * ie.size > 2 ^ 24) (hpos : ¬ len * ie.size = 0)
    (hf : Instr.fill (fun i => some (i * ie.size, ie.size)) ((Array.range (len * ie.size)).map (z.cells[· % z.cells.size]!)) (parts.map fun (i, x) => (i, argsFn args x)).toList = some cells)
    (hK : ∀ w, KnownV X u ow bl w → K (.slice (some ⟨w.heap.size, 0, none⟩) len len) (w.alloc (.cells cells e))) :
    AskE (preEff X u ow bl false (.buildSlice t len parts) ty args) (rEff X u ow bl (.buildSlice t len parts) ty args) K :=
  askE_run rfl (fun w => .slice (some ⟨w.heap.size, 0, none⟩) len len) (fun w => w.alloc (.cells cells e)) (fun w _ => ⟨by
    unfold execOp
    simp only [Sem.run_bind, run_buildSlice w t e len _ cells ie z hu hie hz hsmall hpos hf, Result.andThen_ok]
    rfl, keeps_alloc _ _ _ _⟩) hK
/-- A call by a contract over worlds. -/
theorem ask_callW {md : Bool} {f : Nat} {args : List Value} (hpre : ∀ w, KnownV X u ow bl w → X.S.preW f args w ∧ ∀ b, X.S.modW f args w b → md = true ∧ X.mine b ∧ b ∉ bl.map (·.b))
    (hK : ∀ w v w', KnownV X u ow bl w → X.S.postW f args w v w' → K v w') : AskE (preCall X u ow bl md f args) (rCall X u ow bl f args) K :=
  askE_intro hpre fun v w' ⟨w, hw, hp⟩ => hK w v w' hw hp
end
/-- A slice in memory: its elements' cells, one behind another. -/
def SlAt (w : World) (v : Value) (n : Nat) (xs : List Value) : Prop :=
  (v = .slice none 0 0 ∧ n = 0 ∧ xs = []) ∨
  ∃ b o cap, v = .slice (some ⟨b, o, none⟩) n cap ∧ (n ≤ cap ∧ cap ≤ maxLen) ∧ ∀ (i : Nat) (x : Value), xs[i]? = some x → w.cell? ⟨b, o + i, none⟩ = some x
section
variable {X : Ctx} {u : World} {ow : List Nat} {K : Value → Prop}
theorem ask_iad_sl {t elem : TypeId} {b o n cap s : Nat} {kd : IntKind} {i : Int} (hu : X.P.underlying t = some (.slice elem)) (hs : sz X.P elem = some s) (h0 : 0 ≤ i) (h1 : i < (n : Int)) :
    Ask (rIad X.P t (.slice (some ⟨b, o, none⟩) n cap) (.int kd i)) K = K (.pointer (some ⟨b, o + i.toNat * s, none⟩)) :=
  ask_eq (runs_iff fun _ => indexAddr_sl hu hs h0 h1)
theorem ask_len_sl {t elem : TypeId} {a : Option Addr} {n cap : Nat} (hu : X.P.underlying t = some (.slice elem)) : Ask (rLen X.P t (.slice a n cap)) K = K (.int .i64 n) :=
  ask_eq (runs_iff fun w => by simp [Builtin.len_, run_underlying hu]; rfl)
/-- An aggregate that lies there. -/
theorem ask_load_agg {t : TypeId} {b o : Nat} {cs : List Value} (ht : agg? X.P t = some true) (hn : sz X.P t = some cs.length) (hb : b < u.heap.size) (how : b ∉ ow)
    (hc : ∀ (j : Nat) (v : Value), cs[j]? = some v → u.cell? ⟨b, o + j, none⟩ = some v) (w0 : ∃ w, KnownV X u ow [] w) : Ask (rLoad X u ow t (.pointer (some ⟨b, o, none⟩))) K = K (.agg cs.toArray) := by
  have hr : ∀ w, KnownV X u ow [] w → (Instr.loadAt t (.pointer (some ⟨b, o, none⟩))).run X.P w = .ok (.agg cs.toArray) w := fun w hw =>
    load_agg (X := X) ht hn fun j v hv => by rw [World.cell?_of_block (w := u) (hw.past b hb how)]; exact hc j v hv
  refine ask_eq fun v => ⟨fun h => ?_, fun h w hw => by rw [h]; exact hr w hw⟩
  obtain ⟨w, hw⟩ := w0
  have := h w hw
  rw [hr w hw] at this
  cases this; rfl
theorem ask_load_one {t : TypeId} {b o : Nat} {v : Value} (ht : agg? X.P t = some false) (hb : b < u.heap.size) (how : b ∉ ow)
    (hc : u.cell? ⟨b, o, none⟩ = some v) (w0 : ∃ w, KnownV X u ow [] w) : Ask (rLoad X u ow t (.pointer (some ⟨b, o, none⟩))) K = K v := by
  have hr : ∀ w, KnownV X u ow [] w → (Instr.loadAt t (.pointer (some ⟨b, o, none⟩))).run X.P w = .ok v w := fun w hw =>
    load_one (X := X) ht (by rw [World.cell?_of_block (w := u) (hw.past b hb how)]; exact hc)
  refine ask_eq fun v => ⟨fun h => ?_, fun h w hw => by rw [h]; exact hr w hw⟩
  obtain ⟨w, hw⟩ := w0
  have := h w hw
  rw [hr w hw] at this
  cases this; rfl
end
end Go.Vc
