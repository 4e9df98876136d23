/-
  The engine is sound, part 2: one operation.
-/
import Derived.Test.YtadnlcennghlbaaVcSound1
namespace Go.Vc
open Go Go.RowKit
def PreChain (X : Ctx) (β : Nat → Nat) : List Nd → Env → Nat → Prop
  | [], _, _ => True
  | n :: ns, env, ne => n.pre X env β ∧ ∀ v, n.den X env β v → PreChain X β ns (upd env ne v) (ne + 1)
def Chain (X : Ctx) (β : Nat → Nat) : List Nd → Env → Nat → List Val → Prop
  | [], _, _, vs => vs = []
  | _ :: _, _, _, [] => False
  | n :: ns, env, ne, v :: vs => n.den X env β v ∧ Chain X β ns (upd env ne v) (ne + 1) vs
theorem Chain.length {X : Ctx} {β : Nat → Nat} : ∀ {ns : List Nd} {env : Env} {ne : Nat} {vs : List Val}, Chain X β ns env ne vs → vs.length = ns.length
  | [], _, _, vs, h => by simp only [Chain] at h; subst h; rfl
  | _ :: _, _, _, [], h => h.elim
  | _ :: ns, _, _, _ :: vs, h => by simp only [List.length_cons]; rw [Chain.length h.2]
/-- A node that is no call, no effect, under no conditions. -/
def Nd.pl : Nd → Bool
  | .call .. | .callI .. | .callJ .. | .dfr .. | .guard .. | .eff .. | .callW .. | .callV .. => false
  | _ => true
theorem Nd.pre_pl {X : Ctx} {env : Env} {β : Nat → Nat} {n : Nd} (h : n.pl = true) : n.pre X env β ↔ ∃ v, n.den X env β v := by
  cases n <;> first | exact Iff.rfl | cases h
/-- One block is overwritten, all else stays. -/
structure SetBlk (w w' : World) (b : Nat) (o : Obj) : Prop where
  here : w'.heap[b]? = some o
  other : ∀ j, j ≠ b → w'.heap[j]? = w.heap[j]?
  size : w'.heap.size = w.heap.size
  os : w'.os = w.os
  tape : w'.tape = w.tape
  output : w'.output = w.output
def After (X : Ctx) (σ : St) (env : Env) (β : Nat → Nat) (a : Act) (w : World) (dst : Option Nat) (r : Res) (K : Act → World → Prop) : Prop :=
  match r.fin with
  | .val s => ∀ vs w', Chain X β r.nds env σ.ne vs → Below w.heap.size w w' → K (a.put dst (s.den (updl env σ.ne vs) β)) w'
  | .newb b => ∀ vs, Chain X β r.nds env σ.ne vs → (b.cont.den (updl env σ.ne vs) β).size = b.n → b.cont.ok (updl env σ.ne vs) → b.own = true →
      K (a.put dst (.pointer (some ⟨w.heap.size, 0, none⟩))) (w.alloc (.cells (b.cont.den (updl env σ.ne vs) β) b.ty))
  | .newsl b len => ∀ vs, Chain X β r.nds env σ.ne vs → (b.cont.den (updl env σ.ne vs) β).size = b.n → b.cont.ok (updl env σ.ne vs) → b.own = true →
      K (a.put dst (.slice (some ⟨w.heap.size, 0, none⟩) len len)) (w.alloc (.cells (b.cont.den (updl env σ.ne vs) β) b.ty))
  | .setb k b => ∀ vs w', Chain X β r.nds env σ.ne vs → (b.cont.den (updl env σ.ne vs) β).size = b.n → b.cont.ok (updl env σ.ne vs) →
      (∃ b0, σ.blocks[k]? = some (some b0) ∧ b0.own = true ∧ b.own = true ∧ b.ty = b0.ty ∧ b.n = b0.n) →
      SetBlk w w' (β k) (.cells (b.cont.den (updl env σ.ne vs) β) b.ty (0, 0)) → K (a.put dst undef) w'
  | .eff s md => ∀ vs w', Chain X β r.nds env σ.ne vs → 0 < r.nds.length → (updl env σ.ne vs (σ.ne + r.nds.length - 1)).2 = w' → Keeps X md ((knownBl σ.blocks 0).map fun kb => β kb.1) w w' →
      K (a.put dst (s.den (updl env σ.ne vs) β)) w'
theorem wp_of_value {P : Program} {o : Oper} {a : Act} {w w' : World} {K : Act → World → Prop} {Q : Exit → Act → World → Prop} {v : Value}
    (h : (execOp a.eval o).run P w = .ok (.value v) w') (hK : K (a.put o.dst v) w') : o.wp P a w K Q := by
  unfold Oper.wp; rw [h]; exact hK
theorem wp_of_skip {P : Program} {o : Oper} {a : Act} {w w' : World} {K : Act → World → Prop} {Q : Exit → Act → World → Prop}
    (h : (execOp a.eval o).run P w = .ok .skip w') (hK : K (a.put o.dst undef) w') : o.wp P a w K Q := by
  unfold Oper.wp; rw [h]; exact hK
section
variable {X : Ctx} {σ : St} {env : Env} {β : Nat → Nat} {a : Act} {w : World} {g : List (At × Bool)}
/-- What memory is, is known. -/
theorem Mem.known {y : Sy} {blocks : List (Option Blk)} {gl : List (Nat × Nat)} (h : Mem X y blocks gl env β w) (hl : y.live = true) {bl : List (Nat × Blk)} (hbl : ∀ kb ∈ bl, blocks[kb.1]? = some (some kb.2)) : Known X env β y bl w where
  past := h.past hl
  size := h.wksz
  keep := h.keep
  sz0 := h.sz0
  os := h.os
  tape := h.tape
  output := h.output
  blk := fun kb hkb => by
    obtain ⟨q, hq, rfl⟩ := List.mem_map.1 hkb
    exact ⟨(h.blk _ _ (hbl q hq)).1, h.inh _ _ (hbl q hq), h.own _ _ (hbl q hq)⟩
theorem knownBl_get : ∀ (l : List (Option Blk)) (k0 : Nat) (kb : Nat × Blk), kb ∈ knownBl l k0 → k0 ≤ kb.1 ∧ l[kb.1 - k0]? = some (some kb.2)
  | [], k0, kb, h => by simp [knownBl] at h
  | none :: r, k0, kb, h => by
    simp only [knownBl] at h
    obtain ⟨h1, h2⟩ := knownBl_get r (k0 + 1) kb h
    refine ⟨by omega, ?_⟩
    rw [show kb.1 - k0 = (kb.1 - (k0 + 1)) + 1 from by omega]
    simpa using h2
  | some b :: r, k0, kb, h => by
    simp only [knownBl, List.mem_cons] at h
    rcases h with h | h
    · subst h; simp
    · obtain ⟨h1, h2⟩ := knownBl_get r (k0 + 1) kb h
      refine ⟨by omega, ?_⟩
      rw [show kb.1 - k0 = (kb.1 - (k0 + 1)) + 1 from by omega]
      simpa using h2
theorem knownBl_mem : ∀ (l : List (Option Blk)) (k0 k : Nat) (b : Blk), l[k]? = some (some b) → (k0 + k, b) ∈ knownBl l k0
  | [], k0, k, b, h => by simp at h
  | x :: r, k0, 0, b, h => by
    simp at h
    subst h
    simp [knownBl]
  | x :: r, k0, k + 1, b, h => by
    have := knownBl_mem r (k0 + 1) k b (by simpa using h)
    rw [show k0 + 1 + k = k0 + (k + 1) from by omega] at this
    cases x with
    | none => simpa [knownBl] using this
    | some x => simp only [knownBl, List.mem_cons]; exact .inr this
theorem wf_mk {slots : List Slot} {blocks : List (Option Blk)} {gl : List (Nat × Nat)} {ne : Nat} {y : Sy} (h1 : ∀ s ∈ slots, okSlot ne blocks.length s = true) (h2 : ∀ b ∈ blocks, okB ne blocks.length b = true) (h3 : ∀ p ∈ gl, p.2 < blocks.length)
    (h4 : y.s < ne) (h5 : ∀ k ∈ y.ow, k < blocks.length) : wf ⟨slots, blocks, gl, ne, y⟩ = true := by
  simp only [wf, Bool.and_eq_true, List.all_eq_true, decide_eq_true_eq]
  exact ⟨⟨⟨⟨h1, h2⟩, h3⟩, h4⟩, h5⟩
theorem wf_parts {σ : St} (h : wf σ = true) : (∀ s ∈ σ.slots, okSlot σ.ne σ.blocks.length s = true) ∧ (∀ b ∈ σ.blocks, okB σ.ne σ.blocks.length b = true) ∧ (∀ p ∈ σ.gl, p.2 < σ.blocks.length) ∧ σ.sy.s < σ.ne ∧ ∀ k ∈ σ.sy.ow, k < σ.blocks.length := by
  simp only [wf, Bool.and_eq_true, List.all_eq_true, decide_eq_true_eq] at h
  exact ⟨h.1.1.1.1, h.1.1.1.2, h.1.1.2, h.1.2, h.2⟩
theorem normC_den (v : Value) : (normC v).den env β = v := by
  cases v <;> simp [normC, SV.den, At.den]
  rename_i cs
  apply Array.ext'
  simp [Function.comp_def, At.den]
theorem gIn_conds {g' : List (At × Bool)} (h : gIn g g' = true) (hg : conds env β g) : conds env β g' := by
  rw [conds_iff] at hg ⊢
  intro x hx
  have h1 := List.all_eq_true.1 h x hx
  obtain ⟨y, hy, h2⟩ := List.any_eq_true.1 h1
  simp only [Bool.and_eq_true, beq_iff_eq] at h2
  obtain ⟨h3, h4⟩ := h2
  have h5 := hg y hy
  obtain ⟨x1, x2⟩ := x
  obtain ⟨y1, y2⟩ := y
  simp only at h3 h4 h5 ⊢
  subst h4
  cases x1 <;> cases y1 <;> simp [condSame] at h3
  subst h3
  exact h5
theorem evalO_sound (hs : Sat X σ env β a w) (hg : conds env β g) {x : Operand} {s : SV} (h : evalO σ g x = some s) : a.eval x = s.den env β := by
  cases x with
  | tmp t =>
    simp only [evalO] at h
    split at h
    · rename_i sl hsl
      split at h
      · rename_i hc
        simp only [Bool.and_eq_true] at hc
        cases h
        have := (hs.slot t sl hsl hc.1).1 (gIn_conds hc.2 hg)
        simp [Act.eval, Array.getD]
        have hlt : t < a.tmps.size := by
          rcases Nat.lt_or_ge t a.tmps.size with h' | h'
          · exact h'
          · rw [Array.getElem?_eq_none h'] at this; cases this
        rw [Array.getElem?_eq_getElem hlt] at this
        simp [hlt] at this ⊢
        exact this
      · cases h
    · cases h
  | const v => simp only [evalO, Option.some.injEq] at h; subst h; exact (normC_den v).symm
  | global n =>
    simp only [evalO] at h
    split at h
    · rename_i q b hf
      simp only [Option.some.injEq] at h
      subst h
      have h1 := List.find?_some hf
      have h2 := List.mem_of_find?_eq_some hf
      simp only [beq_iff_eq] at h1
      subst h1
      simp only [Act.eval, SV.den, At.den]
      rw [hs.mem.glob _ _ h2]
    · simp only [Option.some.injEq] at h
      subst h
      rfl
  | func f => simp only [evalO, Option.some.injEq] at h; subst h; rfl
theorem run_agg {t : TypeId} {ag : Bool} (h : agg? X.P t = some ag) (w : World) : (isAgg t).run X.P w = .ok ag w := by
  unfold agg? at h
  unfold isAgg
  cases hd : X.P.underlying t with
  | none => simp [hd] at h
  | some d =>
    rw [Sem.run_bind, run_underlying hd w]
    rw [hd] at h
    cases d <;> simp_all
theorem run_sz {t : TypeId} {n : Nat} (h : sz X.P t = some n) (w : World) : (sizeOf t).run X.P w = .ok n w := by
  unfold sz at h
  cases hi : X.P.info? t with
  | none => simp [hi] at h
  | some i => simp [hi] at h; subst h; simp [sizeOf, typeInfo, hi]
theorem run_zero {t : TypeId} {z : Value} (h : (X.P.info? t).bind (·.zero) = some z) (w : World) : (zeroValue t).run X.P w = .ok z w := by
  cases hi : X.P.info? t with
  | none => simp [hi] at h
  | some i => simp [hi] at h; simp [zeroValue, typeInfo, hi, h]
/-- One node, and what it yields is the operation's value. -/
theorem one_sound {o : Oper} {n : Nd} {s : SV} (hpl : n.pl = true) (hp : PreChain X β [n] env σ.ne)
    (hr : ∀ v, n.den X env β v → (execOp a.eval o).run X.P w = .ok (.value (s.den (upd env σ.ne v) β)) w) {K : Act → World → Prop} {Q : Exit → Act → World → Prop}
    (hK : After X σ env β a w o.dst ⟨[n], .val s⟩ K) : o.wp X.P a w K Q := by
  have h1 : n.pre X env β := hp.1
  have h2 : ∃ v, n.den X env β v := (Nd.pre_pl hpl).1 h1
  obtain ⟨v, hv⟩ := h2
  exact wp_of_value (hr v hv) (hK [v] w ⟨hv, rfl⟩ (Below.refl _ _))
/-- No node. -/
theorem val_sound {o : Oper} {s : SV} (hr : (execOp a.eval o).run X.P w = .ok (.value (s.den env β)) w) {K : Act → World → Prop} {Q : Exit → Act → World → Prop}
    (hK : After X σ env β a w o.dst ⟨[], .val s⟩ K) : o.wp X.P a w K Q :=
  wp_of_value hr (hK [] w rfl (Below.refl _ _))
theorem add_none (b o n : Nat) : (⟨b, o, none⟩ : Addr).add n = ⟨b, o + n, none⟩ := by
  unfold Addr.add; split <;> simp_all
/-! loads -/
theorem load_agg {t : TypeId} {b o : Nat} {cs : List Value} (ht : agg? X.P t = some true) (hn : sz X.P t = some cs.length)
    (h : ∀ j v, cs[j]? = some v → w.cell? ⟨b, o + j, none⟩ = some v) : (Instr.loadAt t (.pointer (some ⟨b, o, none⟩))).run X.P w = .ok (.agg cs.toArray) w := by
  have hl := run_loadCells_list (P := X.P) w ⟨b, o, none⟩ cs (fun j v hv => by rw [add_none]; exact h j v hv)
  simp [Instr.loadAt, Instr.sureAddr, loadVar, Sem.run_bind, run_agg ht, run_sz hn, hl]
theorem load_one {t : TypeId} {b o : Nat} {v : Value} (ht : agg? X.P t = some false) (h : w.cell? ⟨b, o, none⟩ = some v) :
    (Instr.loadAt t (.pointer (some ⟨b, o, none⟩))).run X.P w = .ok v w := by
  simp [Instr.loadAt, Instr.sureAddr, loadVar, Sem.run_bind, run_agg ht, h]
theorem blk?_some {k : Nat} {b : Blk} (h : blk? σ k = some b) : σ.blocks[k]? = some (some b) := by
  unfold blk? at h
  cases hb : σ.blocks[k]? with
  | none => simp [hb] at h
  | some x => simp [hb] at h; subst h; rfl
theorem load_sel {t : TypeId} {n : Nat} {ag : Bool} {b : Nat} {arr : Array Value} {pos : Nat} {v : Value} (hag : agg? X.P t = some ag) (hn : sz X.P t = some n)
    (hc : ∀ (i : Nat) (v : Value), arr[i]? = some v → w.cell? ⟨b, i, none⟩ = some v) (h1 : pos + n ≤ arr.size) (h01 : ag = true ∨ n = 1)
    (hv : v = if ag then .agg (arr.extract pos (pos + n)) else arr.getD pos undef) : (Instr.loadAt t (.pointer (some ⟨b, pos, none⟩))).run X.P w = .ok v w := by
  subst hv
  cases ag with
  | true =>
    have hl : (arr.extract pos (pos + n)).toList.length = n := by simp; omega
    have := load_agg (X := X) (w := w) (t := t) (b := b) (o := pos) (cs := (arr.extract pos (pos + n)).toList) hag (by rw [hl]; exact hn) (fun j v hv => by
      refine hc _ _ ?_
      rw [Array.getElem?_toList, Array.getElem?_extract] at hv
      split at hv
      · exact hv
      · cases hv)
    simpa only [Array.toArray_toList, if_true] using this
  | false =>
    have hlt : pos < arr.size := by
      rcases h01 with h | h
      · cases h
      · omega
    simp only [Bool.false_eq_true, if_false]
    refine load_one hag (hc _ _ ?_)
    simp [hlt]
theorem stepLoad_sound (hs : Sat X σ env β a w) {o : Oper} {t : TypeId} {xo : Operand} (ho : o.op = .load t xo) {x : SV} (hx : a.eval xo = x.den env β) {r : Res} (h : stepLoad X.P σ t x = some r)
    (hp : PreChain X β r.nds env σ.ne) {K : Act → World → Prop} {Q : Exit → Act → World → Prop} (hK : After X σ env β a w o.dst r K) : o.wp X.P a w K Q := by
  have hrun : ∀ v, (Instr.loadAt t (x.den env β)).run X.P w = .ok v w → (execOp a.eval o).run X.P w = .ok (.value v) w := fun v hv => by
    simp [execOp, ho, hx, hv]
  unfold stepLoad at h
  cases hn : sz X.P t with
  | none => simp [hn] at h
  | some n =>
  cases hag : agg? X.P t with
  | none => simp [hn, hag] at h
  | some ag =>
  simp only [hn, hag, Option.bind_eq_bind, Option.bind_some] at h
  split at h
  · rename_i b o'
    cases hb : blk? σ b with
    | none => simp [hb] at h
    | some bl =>
    simp only [hb, Option.bind_some] at h
    have hblk := hs.mem.blk b bl (blk?_some hb)
    split at h
    · rename_i l hl
      split at h
      · rename_i hle
        split at h
        · rename_i hag1
          cases h
          have hd : bl.cont.den env β = (l.map (At.den env β)).toArray := by rw [hl]; rfl
          refine val_sound (hrun _ ?_) hK
          simp only [SV.den, At.den]
          refine load_agg (by rw [hag, hag1]) (by rw [hn]; simp; omega) (fun j v hv => holds_cell hblk.1 ?_)
          rw [hd]
          simp only [List.map_take, List.map_drop] at hv
          rw [List.getElem?_take] at hv
          split at hv
          · rw [List.getElem?_drop] at hv; simpa using hv
          · cases hv
        · rename_i hag0
          split at h
          · rename_i hn1
            split at h
            · rename_i at_ hat
              split at h
              · cases h
                have hd : bl.cont.den env β = (l.map (At.den env β)).toArray := by rw [hl]; rfl
                refine val_sound (hrun _ ?_) hK
                show Sem.run X.P (Instr.loadAt t (.pointer (some ⟨β b, o', none⟩))) w = .ok (at_.den env β) w
                refine load_one (by rw [hag]; simp at hag0; rw [hag0]) (holds_cell hblk.1 ?_)
                rw [hd]; simp [hat]
              · cases h
            · cases h
          · cases h
      · cases h
    · rename_i i hi
      split at h
      · rename_i hc
        simp only [Bool.and_eq_true, beq_iff_eq] at hc
        obtain ⟨⟨hc1, hc2⟩, hc3⟩ := hc
        cases h
        subst hc2
        obtain ⟨hb1, hb2, hb3⟩ := hblk
        have hd : bl.cont.den env β = aggArr (env i).1 := by rw [hi]; rfl
        rw [hi] at hb3
        simp only [Cont.ok] at hb3
        refine val_sound (hrun _ ?_) hK
        simp only [SV.den, At.den]
        rw [hb3]
        have := load_agg (X := X) (w := w) (t := t) (b := β b) (o := 0) (cs := (aggArr (env i).1).toList) (by rw [hag, hc1]) (by rw [hn, hc3, ← hb2, hd]; simp) (fun j v hv => holds_cell hb1 (by
          rw [hd, Nat.zero_add]; simpa using hv))
        simpa only [Array.toArray_toList] using this
      · rename_i hc
        split at h
        · rename_i hc2
          cases h
          refine one_sound rfl hp (fun v hv => hrun _ ?_) hK
          simp only [SV.den, At.den, upd_same]
          obtain ⟨hv1, hv2⟩ := hv
          simp only [Pos.den] at hv1 hv2
          refine load_sel hag hn (fun i v hi => holds_cell hblk.1 hi) hv1 (by simpa using hc2) hv2
        · cases h
  · rename_i b base stride i
    cases hb : blk? σ b with
    | none => simp [hb] at h
    | some bl =>
    simp only [hb, Option.bind_some] at h
    have hblk := hs.mem.blk b bl (blk?_some hb)
    split at h
    · rename_i hc2
      cases h
      refine one_sound rfl hp (fun v hv => hrun _ ?_) hK
      simp only [SV.den, At.den, upd_same]
      obtain ⟨hv1, hv2⟩ := hv
      exact load_sel hag hn (fun i v hi => holds_cell hblk.1 hi) hv1 (by simpa using hc2) hv2
    · cases h
  · cases h
  · cases h
  · cases h
  · split at h
    · rename_i hlive
      cases h
      refine one_sound rfl hp (fun v hv => hrun _ ?_) hK
      simp only [SV.den, At.den, upd_same]
      exact hv w (hs.mem.known hlive (fun kb h => by cases h))
    · cases h
/-! stores -/
theorem store_run {t : TypeId} {b o n : Nat} {cells : Array Value} {ty : TypeId} {v : Value} (hn : sz X.P t = some n) (hb : w.heap[b]? = some (.cells cells ty (0, 0)))
    (hv : v.cells.size = n) (ho : o + n ≤ cells.size) (h1 : v.cells.all (·.oneCell') = true) :
    (Instr.storeAt t (.pointer (some ⟨b, o, none⟩)) v).run X.P w = .ok () (w.setRow b (splice cells o v.cells.toList)) := by
  have := run_storeCells_at (P := X.P) b o ty v.cells.toList 0 cells w hb (by simp; omega) (fun u hu => by
    rw [Array.all_eq_true'] at h1; exact h1 u (by simpa using hu))
  simp only [Nat.add_zero] at this
  simp [Instr.storeAt, Instr.sureAddr, storeVar, run_sz hn, hv, this, splice]
theorem setBlk_setRow {b : Nat} {cells new : Array Value} {ty : TypeId} (hb : w.heap[b]? = some (.cells cells ty (0, 0))) : SetBlk w (w.setRow b new) b (.cells new ty (0, 0)) where
  here := setRow_heap w b cells new ty (0, 0) hb
  other := fun j hj => setRow_other w b j new hj
  size := by simp [World.setRow]
  os := rfl
  tape := rfl
  output := rfl
theorem splice_size {arr : Array Value} {pos : Nat} {vs : List Value} (h : pos + vs.length ≤ arr.size) : (splice arr pos vs).size = arr.size := by
  simp [splice]; omega
/-- The atoms that plain nodes leave denote what the old ones denoted, and fit a cell. -/
theorem plainAts_sound (X : Ctx) : ∀ (l : List At) (ne : Nat) (env : Env) (vs : List Val), (∀ a ∈ l, ∀ e ∈ atE a, e < ne) → l.all plainC = true →
    Chain X β (plainAts ne l).1 env ne vs →
    (plainAts ne l).2.map (At.den (updl env ne vs) β) = l.map (At.den env β) ∧ (∀ u ∈ l.map (At.den env β), u.oneCell' = true)
  | [], ne, env, vs, _, _, h => by simp [plainAts]
  | a :: l, ne, env, vs, hE, hc, h => by
    simp only [List.all_cons, Bool.and_eq_true] at hc
    cases a with
    | v i =>
      simp only [plainAts] at h ⊢
      cases vs with
      | nil => exact h.elim
      | cons u us =>
        obtain ⟨h1, h2⟩ := h
        simp only [Nd.den] at h1
        have hi : i < ne := hE (.v i) (by simp) i (by simp [atE])
        have ih := plainAts_sound X l (ne + 1) (upd env ne u) us (fun a ha e he => by have := hE a (by simp [ha]) e he; omega) hc.2 h2
        have hc2 : l.map (At.den (upd env ne u) β) = l.map (At.den env β) := ats_congr (fun e he => by
          obtain ⟨a, ha, he⟩ := List.mem_flatMap.1 he
          have := hE a (by simp [ha]) e he
          exact upd_ne _ _ (by omega)) (fun _ _ => rfl)
        rw [hc2] at ih
        refine ⟨?_, fun x hx => ?_⟩
        · simp only [updl, List.map_cons, ih.1]
          congr 1
          show (updl (upd env ne u) (ne + 1) us ne).1 = _
          rw [updl_lt _ _ _ _ (by omega), upd_same, h1.1]
        · simp only [List.map_cons, List.mem_cons] at hx
          rcases hx with rfl | hx
          · exact h1.2
          · exact ih.2 x hx
    | junk => simp [plainC] at hc
    | c u =>
      simp only [plainAts] at h ⊢
      have ih := plainAts_sound X l ne env vs (fun a ha => hE a (by simp [ha])) hc.2 h
      refine ⟨by simp only [List.map_cons, ih.1]; rfl, fun x hx => ?_⟩
      simp only [List.map_cons, List.mem_cons] at hx
      rcases hx with rfl | hx
      · exact hc.1
      · exact ih.2 x hx
    | p b o =>
      simp only [plainAts] at h ⊢
      have ih := plainAts_sound X l ne env vs (fun a ha => hE a (by simp [ha])) hc.2 h
      refine ⟨by simp only [List.map_cons, ih.1]; rfl, fun x hx => ?_⟩
      simp only [List.map_cons, List.mem_cons] at hx
      rcases hx with rfl | hx
      · rfl
      · exact ih.2 x hx
    | pd b o s i =>
      simp only [plainAts] at h ⊢
      have ih := plainAts_sound X l ne env vs (fun a ha => hE a (by simp [ha])) hc.2 h
      refine ⟨?_, fun x hx => ?_⟩
      · simp only [List.map_cons, ih.1]
        congr 1
        exact At.den_congr (fun e he => updl_lt _ _ _ _ (hE _ (by simp) e he)) (fun _ _ => rfl)
      · simp only [List.map_cons, List.mem_cons] at hx
        rcases hx with rfl | hx
        · rfl
        · exact ih.2 x hx
    | sl b o n c =>
      simp only [plainAts] at h ⊢
      have ih := plainAts_sound X l ne env vs (fun a ha => hE a (by simp [ha])) hc.2 h
      refine ⟨by simp only [List.map_cons, ih.1]; rfl, fun x hx => ?_⟩
      simp only [List.map_cons, List.mem_cons] at hx
      rcases hx with rfl | hx
      · rfl
      · exact ih.2 x hx
/-- The variables behind an aggregate's node denote its cells. -/
theorem sels_sound (X : Ctx) (e : Nat) (arr : Array Value) : ∀ (n k ne : Nat) (env : Env) (vs : List Val), e < ne → aggArr (env e).1 = arr →
    Chain X β (selsFrom e k n) env ne vs → k + n ≤ arr.size ∨ n = 0 →
    (varsFrom ne n).map (At.den (updl env ne vs) β) = (arr.toList.drop k).take n
  | 0, k, ne, env, vs, _, _, h, _ => by simp [varsFrom]
  | n + 1, k, ne, env, vs, he, ha, h, hk => by
    simp only [selsFrom] at h
    cases vs with
    | nil => exact h.elim
    | cons u us =>
      obtain ⟨h1, h2⟩ := h
      simp only [Nd.den, Cont.den, Pos.den, Bool.false_eq_true, if_false, ha] at h1
      have hkl : k + (n + 1) ≤ arr.size := by rcases hk with h | h <;> omega
      have ih := sels_sound X e arr n (k + 1) (ne + 1) (upd env ne u) us (by omega) (by rw [upd_ne _ _ (by omega)]; exact ha) h2 (.inl (by omega))
      simp only [varsFrom, List.map_cons, updl, ih]
      rw [show At.den (updl (upd env ne u) (ne + 1) us) β (.v ne) = u.1 from by
        show (updl (upd env ne u) (ne + 1) us ne).1 = u.1
        rw [updl_lt _ _ _ _ (by omega), upd_same]]
      have hk2 : k < arr.toList.length := by simp; omega
      rw [List.drop_eq_getElem_cons hk2, List.take_succ_cons]
      congr 1
      rw [h1.2]
      simp at hk2
      simp [hk2]
/-- Some values that a chain of nodes may take. -/
theorem chain_exists : ∀ (ns : List Nd) (env : Env) (ne : Nat), (∀ n ∈ ns, n.pl = true) → PreChain X β ns env ne → ∃ vs, Chain X β ns env ne vs
  | [], _, _, _, _ => ⟨[], rfl⟩
  | n :: ns, env, ne, hc, h => by
    have h2 : ∃ v, n.den X env β v := (Nd.pre_pl (hc n (by simp))).1 h.1
    obtain ⟨v, hv⟩ := h2
    obtain ⟨vs, hvs⟩ := chain_exists ns (upd env ne v) (ne + 1) (fun n hn => hc n (by simp [hn])) (h.2 v hv)
    exact ⟨v :: vs, hv, hvs⟩
end
end Go.Vc
