/-
  Functions that write to memory that they are handed: contracts, calls; stores, copies, clearings where a pointer points.
-/
import Derived.Test.YtadnlcennghlbaaVcMap
import Derived.Laws.CopyRow
import Derived.Laws.Slices
import Derived.Lib.SliceRun
namespace Go.Vc
open Go Go.RowKit
/-- New memory may be written to. -/
def StdN (X : Ctx) : Prop := ∀ b, X.w0.heap.size ≤ b → X.mine b
theorem Std.n {X : Ctx} (h : Std X) : StdN X := fun b hb => (h b).2 hb
/-- New memory, and that of md, may be written to. -/
def StdM (X : Ctx) (md : Nat → Prop) : Prop := ∀ b, X.mine b ↔ (X.w0.heap.size ≤ b ∨ md b)
theorem StdM.n {X : Ctx} {md : Nat → Prop} (h : StdM X md) : StdN X := fun b hb => (h b).2 (.inl hb)
theorem knN {X : Ctx} {u w w' : World} {ow : List Nat} {bl : List KB} {ex : List Nat} (hX : StdN X) (hw : KnownV X u ow bl w) (hs : Stp ex w w') (he : ∀ b ∈ ex, X.mine b) (h1 : w'.os = w.os) (h2 : w'.tape = w.tape) (h3 : w'.output = w.output) : Kn X w' := by
  refine ⟨fun _ _ _ => rfl, Nat.le_refl _, fun b hb => ?_, Nat.le_trans hw.sz0 hs.size, h1.trans hw.os, h2.trans hw.tape, h3.trans hw.output, fun _ h => by cases h⟩
  have hlt : b < X.w0.heap.size := by
    rcases Nat.lt_or_ge b X.w0.heap.size with h | h
    · exact h
    · exact absurd (hX b h) hb
  rw [hs.past b (Nat.lt_of_lt_of_le hlt hw.sz0) fun h => hb (he b h)]
  exact hw.keep b hb
/-! ### contracts -/
def fnM {α : Type} (c : Cods α) (pre : α → World → Prop) (post : α → World → Value → World → Prop) (md : α → Nat → Prop) : Contract where
  preW args w := ∃ a, c.rd w args a ∧ pre a w
  postW args w v w' := ∀ a, c.rd w args a → post a w v w' ∧ KeepsM (md a) w w'
  modW args w b := ∃ a, c.rd w args a ∧ md a b
theorem keepsM {P : Program} {G : World → Prop} {T : Table} {A : Ann} {f : FuncId} {α : Type} {c : Cods α} {pre : α → World → Prop} {post : α → World → Value → World → Prop} {md : α → Nat → Prop} (hm : P.follows .mixedOrders = true) (hT : AllKeep P G T)
    (hG : ∀ a w0 w args, c.rd w0 args a → pre a w0 → G w0 → (∀ b, b < w0.heap.size → ¬ md a b → w.heap[b]? = w0.heap[b]?) → w0.heap.size ≤ w.heap.size → G w)
    (he : ∀ f ∈ A.calls, ∀ args w, (callFunc f args).run P w = .ok (.enter f args) w) (heW : ∀ p ∈ A.callsW, ∀ args w, (callFunc p.1 args).run P w = .ok (.enter p.1 args) w)
    (h : ∀ args a w0, c.rd w0 args a → pre a w0 → G w0 → ∃ (sv : List SV) (blocks : List (Option Blk)) (gl : List (Nat × Nat)) (ne : Nat) (env : Env) (β : Nat → Nat) (nb : Nat),
      sv.map (·.den env β) = args ∧ blocks.length = nb ∧ (∀ X : Ctx, X.w0 = w0 → Mem X ⟨true, ne - 1, []⟩ blocks gl env β w0) ∧
      ∀ X : Ctx, X.P = P → X.S = T.spec → X.w0 = w0 → StdM X (md a) → (∀ u ow bl v, (∀ w, KnownV X u ow bl w → post a w0 v w) → Ret X u ow bl v) →
        (run P A f sv blocks gl ne).den X env ne β nb (fun _ _ _ => False)) : Keeps1 P G f (fnM c pre post md) := by
  refine ⟨fun args w hp => hp.elim, fun args w0 ⟨a, hrd, hpre⟩ hg => ?_⟩
  obtain ⟨sv, blocks, gl, ne, env, β, nb, hargs, hnb, hmem, hden⟩ := h args a w0 hrd hpre hg
  subst hnb
  have hgood : Good (ctx P G T w0 (md a) fun v w' => post a w0 v w' ∧ KeepsM (md a) w0 w') A := good_of hm hT (fun w h hs => hG a w0 w args hrd hpre hg (fun b hb hn => h b hb hn) hs) he heW
  have h1 := run_sound (X := ctx P G T w0 (md a) fun v w' => post a w0 v w' ∧ KeepsM (md a) w0 w') hgood (hmem _ rfl)
    (hden _ rfl rfl rfl (fun b => Iff.rfl) (fun u ow bl v hv w hw => ⟨hv w hw, known_keepsM hw⟩))
  rw [hargs] at h1
  refine h1.mono fun e w' ⟨v, he, hp, hk⟩ => ⟨v, he, fun a' ha' => ?_, hk.os, hk.tape, hk.output, hk.size, fun b hb hn => hk.block b hb fun hh => hn ⟨a, hrd, hh⟩⟩
  rw [c.inj _ _ _ _ ha' hrd]; exact ⟨hp, hk⟩
theorem call_M {α : Type} {X : Ctx} {T : Table} {f : Nat} {c : Cods α} {pre : α → World → Prop} {post : α → World → Value → World → Prop} {md : α → Nat → Prop} {u : World} {ow : List Nat} {bl : List KB} {args : List Value} {K : Value → World → Prop}
    (hX : StdN X) (hS : X.S = T.spec) (hT : T f = fnM c pre post md) (a : α) (hrd : ∀ w, KnownV X u ow bl w → c.rd w args a ∧ pre a w) (ex : List Nat) (hex : ∀ b, md a b → b ∈ ex) (hmine : ∀ b ∈ ex, X.mine b ∧ b ∉ bl.map (·.b))
    (hK : ∀ v w w', KnownV X u ow bl w → Kn X w' → Stp ex w w' → Stp (ow ++ ex) u w' → post a w v w' → K v w') : AskW X u ow bl true f args K := by
  have h1 : ∀ w, X.S.preW f args w = (fnM c pre post md).preW args w := fun w => by rw [hS]; show (T f).preW _ _ = _; rw [hT]
  have h2 : ∀ w v w', X.S.postW f args w v w' = (fnM c pre post md).postW args w v w' := fun w v w' => by rw [hS]; show (T f).postW _ _ _ _ = _; rw [hT]
  have h3 : ∀ w b, X.S.modW f args w b = (fnM c pre post md).modW args w b := fun w b => by rw [hS]; show (T f).modW _ _ _ = _; rw [hT]
  refine ask_callW (fun w hw => ⟨by rw [h1]; exact ⟨a, hrd w hw⟩, fun b hb => ?_⟩) fun w v w' hw hp => ?_
  · rw [h3] at hb
    obtain ⟨a', ha', hb⟩ := hb
    rw [c.inj _ _ _ _ ha' (hrd w hw).1] at hb
    exact ⟨rfl, hmine b (hex b hb)⟩
  · rw [h2] at hp
    obtain ⟨hp, hk⟩ := hp a (hrd w hw).1
    have hs : Stp ex w w' := ⟨hk.size, fun b hb hn => hk.block b hb fun hh => hn (hex b hh)⟩
    exact hK v w w' hw (knN hX hw hs (fun b hb => (hmine b hb).1) hk.os hk.tape hk.output) hs (hw.stp.trans hs) hp
/-! ### cells that are overwritten -/
section
variable {X : Ctx} {P : Program} {u : World} {ow : List Nat} {bl : List KB} {KW : Value → World → Prop}
/-- An effect that overwrites one block's cells. -/
theorem a_row {md : Bool} (hmd : md = true) {op : Op} {ty b : Nat} {l : List (Nat × Value)} {cells new : Array Value} {ty0 : TypeId} (hX : StdN X) (hrow : u.heap[b]? = some (.cells cells ty0 (0, 0))) (how : b ∉ ow) (hmine : X.mine b) (hbl : b ∉ bl.map (·.b)) (v : Value)
    (hrun : ∀ w, KnownV X u ow bl w → w.heap[b]? = some (.cells cells ty0 (0, 0)) → (execOp (argsFn l) ⟨none, op, ty, "", #[], none⟩).run X.P w = .ok (effOut op v) (w.setRow b new))
    (hK : ∀ q w w', KnownV X u ow bl w → Kn X w' → Stp [b] w w' → Stp (ow ++ [b]) u w' → w'.heap[b]? = some (.cells new ty0 (0, 0)) → w'.heap.size = w.heap.size → (mute op = false → q = v) → KW q w') : AskO X u ow bl md op ty l KW := by
  subst hmd
  have hlt : b < u.heap.size := (Array.getElem?_eq_some_iff.1 hrow).1
  have row : ∀ w, KnownV X u ow bl w → w.heap[b]? = some (.cells cells ty0 (0, 0)) := fun w hw => by rw [hw.past b hlt how]; exact hrow
  have stp : ∀ w, KnownV X u ow bl w → Stp [b] w (w.setRow b new) := fun w hw => ⟨by simp [World.setRow], fun q _ hn => setRow_other w b q new (by simpa using hn)⟩
  refine askE_intro (fun w hw => ⟨v, _, hrun w hw (row w hw), rfl, rfl, rfl, (stp w hw).size, fun q hq hm => (stp w hw).past q hq fun h => ?_⟩) fun q w' ⟨w, hw, hr⟩ => ?_
  · simp only [List.mem_singleton] at h
    subst h
    rcases hm rfl with h | h
    · exact h hmine
    · exact hbl h
  · have hr : (execOp (argsFn l) ⟨none, op, ty, "", #[], none⟩).run X.P w = .ok (effOut op q) w' := hr
    rw [hrun w hw (row w hw)] at hr
    have hq : mute op = false → q = v := fun h => by
      simp only [effOut, h, Bool.false_eq_true, if_false] at hr
      cases hr; rfl
    have hw' : w' = w.setRow b new := by
      injection hr with _ h
      exact h.symm
    subst hw'
    exact hK q w _ hw (knN hX hw (stp w hw) (all1 hmine) rfl rfl rfl) (stp w hw) (hw.stp.trans (stp w hw)) (setRow_heap w b cells new ty0 (0, 0) (row w hw)) (by simp [World.setRow]) hq
/-- A store where a pointer points. -/
theorem a_storeAt {t ty b o m : Nat} {pa pb : Operand} {l : List (Nat × Value)} {x : Value} {vs : List Value} {cells : Array Value} {ty0 : TypeId} (hX : StdN X) (hP : X.P = P) (ht : sz P t = some m) (e1 : argsFn l pa = .pointer (some ⟨b, o, none⟩)) (e2 : argsFn l pb = x)
    (hx : x.cells = vs.toArray) (hm : vs.length = m) (h1 : vs.all (·.oneCell') = true) (hrow : u.heap[b]? = some (.cells cells ty0 (0, 0))) (how : b ∉ ow) (hmine : X.mine b) (hbl : b ∉ bl.map (·.b)) (ho : o + m ≤ cells.size)
    (hK : ∀ q w w', KnownV X u ow bl w → Kn X w' → Stp [b] w w' → Stp (ow ++ [b]) u w' → w'.heap[b]? = some (.cells (splice cells o vs) ty0 (0, 0)) → w'.heap.size = w.heap.size → KW q w') :
    AskO X u ow bl true (.store t pa pb) ty l KW := by
  subst hP
  refine a_row rfl hX hrow how hmine hbl undef (fun w hw hr => ?_) fun q w w' h1 h2 h3 h4 h5 h6 _ => hK q w w' h1 h2 h3 h4 h5 h6
  have hr := store_run (X := X) (t := t) (w := w) (o := o) (v := x) ht hr (by rw [hx]; simpa using hm) ho (by rw [hx]; simpa using h1)
  rw [hx] at hr
  simp only [execOp, e1, e2, Sem.run_bind]
  rw [hr]
  rfl
/-! ### variables that are not tracked -/
end
/-! ### pointers -/
section
variable {X : Ctx} {P : Program} {u : World} {ow : List Nat} {K : Value → Prop}
end
end Go.Vc
