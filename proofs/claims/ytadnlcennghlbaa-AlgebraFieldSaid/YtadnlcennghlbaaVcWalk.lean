/-
  Contracts by what arguments read as; steps between worlds; scalars as numbers.
-/
import Derived.Test.YtadnlcennghlbaaVcU64
import Derived.Laws.OwnMore
namespace Go.Vc
open Go Go.RowKit
/-! ### worlds -/
/-- A world at which an effect has ended. -/
abbrev Kn (X : Ctx) (w : World) : Prop := KnownV X w [] [] w
theorem KnownV.kn {X : Ctx} {u w : World} {ow : List Nat} {bl : List KB} (h : KnownV X u ow bl w) : Kn X w where
  past := fun _ _ _ => rfl
  size := Nat.le_refl _
  keep := h.keep
  sz0 := h.sz0
  os := h.os
  tape := h.tape
  output := h.output
  blk := fun _ h => by cases h
theorem Kn.some {X : Ctx} {u : World} {ow : List Nat} (h : Kn X u) : ∃ w, KnownV X u ow [] w := ⟨u, { h with past := fun _ _ _ => rfl }⟩
/-- From u to w all blocks stay but those of ex. -/
structure Stp (ex : List Nat) (u w : World) : Prop where
  size : u.heap.size ≤ w.heap.size
  past : ∀ b, b < u.heap.size → b ∉ ex → w.heap[b]? = u.heap[b]?
theorem Stp.refl (ex : List Nat) (u : World) : Stp ex u u := ⟨Nat.le_refl _, fun _ _ _ => rfl⟩
theorem KnownV.stp {X : Ctx} {u w : World} {ow : List Nat} {bl : List KB} (h : KnownV X u ow bl w) : Stp ow u w := ⟨h.size, h.past⟩
theorem Stp.trans {ex ex' : List Nat} {u v w : World} (h : Stp ex u v) (k : Stp ex' v w) : Stp (ex ++ ex') u w :=
  ⟨Nat.le_trans h.size k.size, fun b hb hn => by
    rw [List.mem_append, not_or] at hn
    exact (k.past b (Nat.lt_of_lt_of_le hb h.size) hn.2).trans (h.past b hb hn.1)⟩
theorem Stp.trans0 {u v w : World} (h : Stp [] u v) (k : Stp [] v w) : Stp [] u w := h.trans k
theorem KeepsM.stp {w w' : World} (h : KeepsM (fun _ => False) w w') : Stp [] w w' := ⟨h.size, fun b hb _ => h.block b hb id⟩
/-- Nothing that was there may be written to. -/
def Std (X : Ctx) : Prop := ∀ b, X.mine b ↔ X.w0.heap.size ≤ b
/-- The start's memory, at any time. -/
theorem Kn.stp0 {X : Ctx} {w : World} (h : Kn X w) (hm : Std X) : Stp [] X.w0 w := ⟨h.sz0, fun b hb _ => h.keep b (fun hh => by have := (hm b).1 hh; omega)⟩
theorem SlAt.stp3 {ex : List Nat} {u w : World} {v : Value} {n : Nat} {xs : List Value} (h : SlAt u v n xs) (hs : Stp ex u w) (hb : ∀ b, v.ownBlock = some b → b < u.heap.size → b ∉ ex) : SlAt w v n xs := by
  rcases h with h | ⟨b, o, cap, hv, hn, hc⟩
  · exact .inl h
  · refine .inr ⟨b, o, cap, hv, hn, fun i x hx => ?_⟩
    have hbz : b < u.heap.size := World.block_lt_of_cell? u _ (hc i x hx)
    rw [World.cell?_of_block (w := u) (hs.past b hbz (hb b (by rw [hv]; rfl) hbz))]
    exact hc i x hx
theorem SlAt.stp {ex : List Nat} {u w : World} {v : Value} {n : Nat} {xs : List Value} (h : SlAt u v n xs) (hs : Stp ex u w) (hb : ∀ b, v.ownBlock = some b → b ∉ ex) : SlAt w v n xs := h.stp3 hs fun b h _ => hb b h
theorem SlAt.stp0 {u w : World} {v : Value} {n : Nat} {xs : List Value} (h : SlAt u v n xs) (hs : Stp [] u w) : SlAt w v n xs := h.stp hs (fun _ _ => List.not_mem_nil)
theorem own_stp {ex : List Nat} {u w : World} {base size n : Nat} {e : TypeId} {v : Value} {xs : List Value} (h : u.ownsRow base e size v n xs) (hs : Stp ex u w) (hb : ∀ b, v.ownBlock = some b → b ∉ ex) : w.ownsRow base e size v n xs := by
  refine ⟨h.1, ?_⟩
  rcases h.2 with hn | ⟨g, cap, cur, rfl, hbg, hg, rest⟩
  · exact .inl hn
  · exact .inr ⟨g, cap, cur, rfl, hbg, by rw [hs.past g (Array.getElem?_eq_some_iff.1 hg).1 (hb g rfl)]; exact hg, rest⟩
theorem own_stp0 {u w : World} {base size n : Nat} {e : TypeId} {v : Value} {xs : List Value} (h : u.ownsRow base e size v n xs) (hs : Stp [] u w) : w.ownsRow base e size v n xs := own_stp h hs (fun _ _ => List.not_mem_nil)
theorem own_slAt {w : World} {base size n : Nat} {e : TypeId} {v : Value} {xs : List Value} (h : w.ownsRow base e size v n xs) : SlAt w v n xs := by
  rcases h.2 with ⟨hv, hn⟩ | ⟨g, cap, cur, rfl, hbg, hg, hnc, hcm, hcs, htake⟩
  · have := h.1
    rw [hn, Nat.zero_mul] at this
    exact .inl ⟨hv, hn, List.eq_nil_of_length_eq_zero this⟩
  · refine .inr ⟨g, 0, cap, rfl, ⟨hnc, hcm⟩, fun i x hx => ?_⟩
    have hi : i < n * size := by rw [← h.1]; exact (List.getElem?_eq_some_iff.1 hx).1
    rw [Nat.zero_add, h.cellAt i hi, hx]
/-! ### contracts by what arguments read as -/
/-- How a value is read. -/
structure Cod (α : Type) where
  rd : World → Value → α → Prop
  inj : ∀ w v a b, rd w v a → rd w v b → a = b
structure Cods (α : Type) where
  rd : World → List Value → α → Prop
  inj : ∀ w v a b, rd w v a → rd w v b → a = b
def Cods.nil : Cods Unit := ⟨fun _ l _ => l = [], fun _ _ _ _ _ _ => rfl⟩
def Cods.cons {α β : Type} (c : Cod α) (d : Cods β) : Cods (α × β) := ⟨fun w l p => ∃ v r, l = v :: r ∧ c.rd w v p.1 ∧ d.rd w r p.2, fun w l p q => by
  rintro ⟨v, r, h1, h2, h3⟩ ⟨v', r', k1, k2, k3⟩
  rw [h1] at k1
  cases k1
  exact Prod.ext (c.inj _ _ _ _ h2 k2) (d.inj _ _ _ _ h3 k3)⟩
/-- A function that writes to nothing that was there. -/
def fnW {α : Type} (c : Cods α) (pre : α → World → Prop) (post : α → World → Value → World → Prop) : Contract where
  preW args w := ∃ a, c.rd w args a ∧ pre a w
  postW args w v w' := (∀ a, c.rd w args a → post a w v w') ∧ KeepsM (fun _ => False) w w'
/-- A function of values. -/
def fnP {α : Type} (enc : α → List Value) (dom : α → Prop) (out : α → Value → Prop) : Contract where
  pre args := ∃ a, dom a ∧ args = enc a
  post args v := ∀ a, dom a → args = enc a → out a v
theorem call_P {α : Type} {X : Ctx} {T : Table} {f : Nat} {enc : α → List Value} {dom : α → Prop} {out : α → Value → Prop} {K : Value → Prop} (hS : X.S = T.spec) (hT : T f = fnP enc dom out) (a : α) (hd : dom a)
    (hK : ∀ v, out a v → K v) : AskF X f (enc a) K := by
  have h1 : X.S.pre f (enc a) = (fnP enc dom out).pre (enc a) := by rw [hS]; show (T f).pre _ = _; rw [hT]
  have h2 : X.S.post f (enc a) = (fnP enc dom out).post (enc a) := by rw [hS]; show (T f).post _ = _; rw [hT]
  unfold AskF
  rw [h1, h2]
  exact askC_intro ⟨a, hd, rfl⟩ fun v hv => hK v (hv a hd rfl)
/-- A call that gives back just this. -/
theorem call_PE {α : Type} {X : Ctx} {T : Table} {f : Nat} {enc : α → List Value} {dom : α → Prop} {out : α → Value} {K : Value → Prop} (hS : X.S = T.spec) (hT : T f = fnP enc dom (fun a v => v = out a)) (a : α) (hd : dom a)
    (hK : K (out a)) : AskF X f (enc a) K := call_P hS hT a hd fun _ hv => hv ▸ hK
/-- A method of an interface value, by the contract of the function that it is. -/
theorem call_I {α : Type} {X : Ctx} {P : Program} {T : Table} {f : Nat} {enc : α → List Value} {dom : α → Prop} {out : α → Value} {x : Value} {m : String} {args : List Value} {K : Value → Prop} (hP : X.P = P) (hS : X.S = T.spec) (hT : T f = fnP enc dom (fun a v => v = out a)) (a : α) (hm : Meth P x m args f (enc a)) (hd : dom a)
    (hK : K (out a)) : AskI X x m args K := by
  subst hP
  obtain ⟨h1, h2⟩ := call_PE (K := K) hS hT a hd hK
  refine ⟨⟨f, _, hm, h1⟩, fun v hv => ?_⟩
  obtain ⟨f', ys', hm', hv⟩ := hv
  obtain ⟨rfl, rfl⟩ := hm.unique hm'
  exact h2 v hv
theorem call_W {α : Type} {X : Ctx} {T : Table} {f : Nat} {c : Cods α} {pre : α → World → Prop} {post : α → World → Value → World → Prop} {u : World} {ow : List Nat} {bl : List KB} {md : Bool} {args : List Value} {K : Value → World → Prop}
    (hX : Std X) (hS : X.S = T.spec) (hT : T f = fnW c pre post) (a : α) (hrd : ∀ w, KnownV X u ow bl w → c.rd w args a ∧ pre a w)
    (hK : ∀ v w w', KnownV X u ow bl w → Kn X w' → Stp [] w w' → Stp ow u w' → post a w v w' → K v w') : AskW X u ow bl md f args K := by
  have h1 : ∀ w, X.S.preW f args w = (fnW c pre post).preW args w := fun w => by rw [hS]; show (T f).preW _ _ = _; rw [hT]
  have h2 : ∀ w v w', X.S.postW f args w v w' = (fnW c pre post).postW args w v w' := fun w v w' => by rw [hS]; show (T f).postW _ _ _ _ = _; rw [hT]
  have h3 : ∀ w b, X.S.modW f args w b = False := fun w b => by rw [hS]; show (T f).modW _ _ _ = _; rw [hT]; rfl
  refine ask_callW (fun w hw => ⟨by rw [h1]; exact ⟨a, hrd w hw⟩, fun b hb => by rw [h3] at hb; exact hb.elim⟩) fun w v w' hw hp => ?_
  rw [h2] at hp
  obtain ⟨hp, hk⟩ := hp
  have hs := KeepsM.stp hk
  refine hK v w w' hw ⟨fun _ _ _ => rfl, Nat.le_refl _, fun b hb => ?_, Nat.le_trans hw.sz0 hk.size, hk.os.trans hw.os, hk.tape.trans hw.tape, hk.output.trans hw.output, fun _ h => by cases h⟩ hs ?_ (hp a (hrd w hw).1)
  · rcases Nat.lt_or_ge b w.heap.size with hlt | hge
    · rw [hk.block b hlt id]; exact hw.keep b hb
    · exact absurd ((hX b).2 (Nat.le_trans hw.sz0 hge)) hb
  · have := hw.stp.trans hs
    simpa using this
/-- A tree that holds, for a function by what its arguments read as. -/
theorem keepsW {P : Program} {G : World → Prop} {T : Table} {A : Ann} {f : FuncId} {α : Type} {c : Cods α} {pre : α → World → Prop} {post : α → World → Value → World → Prop} (hm : P.follows .mixedOrders = true) (hT : AllKeep P G T)
    (hG : ∀ w0 w : World, G w0 → (∀ b, b < w0.heap.size → w.heap[b]? = w0.heap[b]?) → w0.heap.size ≤ w.heap.size → G w)
    (he : ∀ f ∈ A.calls, ∀ args w, (callFunc f args).run P w = .ok (.enter f args) w) (heW : ∀ p ∈ A.callsW, ∀ args w, (callFunc p.1 args).run P w = .ok (.enter p.1 args) w)
    (h : ∀ args a w0, c.rd w0 args a → pre a w0 → G w0 → ∃ (sv : List SV) (blocks : List (Option Blk)) (gl : List (Nat × Nat)) (ne : Nat) (env : Env) (β : Nat → Nat) (nb : Nat),
      sv.map (·.den env β) = args ∧ blocks.length = nb ∧ (∀ X : Ctx, X.w0 = w0 → Mem X ⟨true, ne - 1, []⟩ blocks gl env β w0) ∧
      ∀ X : Ctx, X.P = P → X.S = T.spec → X.w0 = w0 → Std X → (∀ u ow bl v, (∀ w, KnownV X u ow bl w → post a w0 v w) → Ret X u ow bl v) →
        (run P A f sv blocks gl ne).den X env ne β nb (fun _ _ _ => False)) : Keeps1 P G f (fnW c pre post) := by
  refine ⟨fun args w hp => hp.elim, fun args w0 ⟨a, hrd, hpre⟩ hg => ?_⟩
  obtain ⟨sv, blocks, gl, ne, env, β, nb, hargs, hnb, hmem, hden⟩ := h args a w0 hrd hpre hg
  subst hnb
  have hgood : Good (ctx P G T w0 (fun _ => False) fun v w' => post a w0 v w' ∧ KeepsM (fun _ => False) w0 w') A := good_of hm hT (fun w h hs => hG w0 w hg (fun b hb => h b hb (fun h => h)) hs) he heW
  have h1 := run_sound (X := ctx P G T w0 (fun _ => False) fun v w' => post a w0 v w' ∧ KeepsM (fun _ => False) w0 w') hgood (hmem _ rfl)
    (hden _ rfl rfl rfl (fun b => ⟨fun h => h.elim id False.elim, .inl⟩) (fun u ow bl v hv w hw => ⟨hv w hw, known_keepsM hw⟩))
  rw [hargs] at h1
  refine h1.mono fun e w' ⟨v, he, hp, hk⟩ => ⟨v, he, ⟨fun a' ha' => ?_, hk⟩, hk⟩
  rw [c.inj _ _ _ _ ha' hrd]; exact hp
/-- A tree that holds, for a function of values. -/
theorem keepsP {P : Program} {G : World → Prop} {T : Table} {A : Ann} {f : FuncId} {α : Type} {enc : α → List Value} {dom : α → Prop} {out : α → Value → Prop} (hinj : ∀ a b, dom a → dom b → enc a = enc b → a = b) (hm : P.follows .mixedOrders = true) (hT : AllKeep P G T)
    (hG : ∀ w0 w : World, G w0 → (∀ b, b < w0.heap.size → w.heap[b]? = w0.heap[b]?) → w0.heap.size ≤ w.heap.size → G w)
    (he : ∀ f ∈ A.calls, ∀ args w, (callFunc f args).run P w = .ok (.enter f args) w) (heW : ∀ p ∈ A.callsW, ∀ args w, (callFunc p.1 args).run P w = .ok (.enter p.1 args) w)
    (h : ∀ a w0, dom a → G w0 → ∃ (sv : List SV) (blocks : List (Option Blk)) (gl : List (Nat × Nat)) (ne : Nat) (env : Env) (β : Nat → Nat) (nb : Nat),
      sv.map (·.den env β) = enc a ∧ blocks.length = nb ∧ (∀ X : Ctx, X.w0 = w0 → Mem X ⟨true, ne - 1, []⟩ blocks gl env β w0) ∧
      ∀ X : Ctx, X.P = P → X.S = T.spec → X.w0 = w0 → Std X → (∀ u ow bl v, out a v → Ret X u ow bl v) →
        (run P A f sv blocks gl ne).den X env ne β nb (fun _ _ _ => False)) : Keeps1 P G f (fnP enc dom out) := by
  refine ⟨fun args w0 ⟨a, hd, ha⟩ hg => ?_, fun args w hp => hp.elim⟩
  obtain ⟨sv, blocks, gl, ne, env, β, nb, hargs, hnb, hmem, hden⟩ := h a w0 hd hg
  subst hnb
  have hgood : Good (ctx P G T w0 (fun _ => False) fun v w' => out a v ∧ Below w0.heap.size w0 w') A := good_of hm hT (fun w h hs => hG w0 w hg (fun b hb => h b hb (fun h => h)) hs) he heW
  have h1 := run_sound (X := ctx P G T w0 (fun _ => False) fun v w' => out a v ∧ Below w0.heap.size w0 w') hgood (hmem _ rfl)
    (hden _ rfl rfl rfl (fun b => ⟨fun h => h.elim id False.elim, .inl⟩) (fun u ow bl v hv w hw => ⟨hv, known_below hw⟩))
  rw [hargs, ← ha] at h1
  refine h1.mono fun e w' ⟨v, he, hp, hk⟩ => ⟨v, he, fun a' hd' ha' => ?_, hk⟩
  rw [hinj _ _ hd' hd (ha'.symm.trans ha)]; exact hp
end Go.Vc
