import Derived.Test.YtcnmnmhmmgjblaaGreatDoorVcSound5
/-
  The engine is sound, part 6: what is known behind an operation.
-/
namespace Go.Vc
open Go Go.RowKit
/-- More is known: more variables, more blocks. -/
structure Ext (σ : St) (env : Env) (β : Nat → Nat) (σ' : St) (env' : Env) (β' : Nat → Nat) : Prop where
  ne : σ.ne ≤ σ'.ne
  nb : σ.blocks.length ≤ σ'.blocks.length
  env : ∀ e, e < σ.ne → env' e = env e
  beta : ∀ b, b < σ.blocks.length → β' b = β b
theorem Ext.refl (σ : St) (env : Env) (β : Nat → Nat) : Ext σ env β σ env β := ⟨Nat.le_refl _, Nat.le_refl _, fun _ _ => rfl, fun _ _ => rfl⟩
theorem Ext.trans {σ σ' σ'' : St} {env env' env'' : Env} {β β' β'' : Nat → Nat} (h : Ext σ env β σ' env' β') (k : Ext σ' env' β' σ'' env'' β'') : Ext σ env β σ'' env'' β'' :=
  ⟨Nat.le_trans h.ne k.ne, Nat.le_trans h.nb k.nb, fun e he => (k.env e (Nat.lt_of_lt_of_le he h.ne)).trans (h.env e he), fun b hb => (k.beta b (Nat.lt_of_lt_of_le hb h.nb)).trans (h.beta b hb)⟩
section
variable {X : Ctx} {σ : St} {env env' : Env} {β β' : Nat → Nat} {a : Act} {w w' : World}
theorem wfB (hwf : wf σ = true) {k : Nat} {b : Blk} (h : σ.blocks[k]? = some (some b)) : (∀ e ∈ contE b.cont, e < σ.ne) ∧ ∀ c ∈ contB b.cont, c < σ.blocks.length := by
  have := (wf_parts hwf).2.1 _ (List.mem_of_getElem? h)
  simp only [okB, okC, Bool.and_eq_true, List.all_eq_true, decide_eq_true_eq] at this
  exact this
theorem wfG (hwf : wf σ = true) {g k : Nat} (h : (g, k) ∈ σ.gl) : k < σ.blocks.length := by
  exact (wf_parts hwf).2.2.1 _ h
theorem Holds.congr {k k' : Nat} {b : Blk} (h : Holds w k b env β) (hk : k' = k) (he : ∀ e ∈ contE b.cont, env e = env' e) (hb : ∀ c ∈ contB b.cont, β c = β' c) : Holds w k' b env' β' := by
  subst hk
  unfold Holds at *
  rw [← Cont.den_congr he hb]
  exact h
/-- Memory as it is known, under other numbers that agree where it matters. -/
theorem Mem.agree {y : Sy} {blocks : List (Option Blk)} {gl : List (Nat × Nat)} (h : Mem X y blocks gl env β w) (hblk : ∀ (k : Nat) (b : Blk), blocks[k]? = some (some b) → (∀ e ∈ contE b.cont, env e = env' e) ∧ (∀ c ∈ contB b.cont, β c = β' c) ∧ β k = β' k)
    (hgl : ∀ p ∈ gl, β p.2 = β' p.2) (hy : env y.s = env' y.s) (how : ∀ k ∈ y.ow, β k = β' k) : Mem X y blocks gl env' β' w where
  blk := fun k b hk => by
    obtain ⟨h1, h2, h3⟩ := h.blk k b hk
    obtain ⟨e1, e2, e3⟩ := hblk k b hk
    exact ⟨h1.congr e3.symm e1 e2, by rw [← Cont.den_congr e1 e2]; exact h2, Cont.ok_congr e1 h3⟩
  inh := fun k b hk => by rw [← (hblk k b hk).2.2]; exact h.inh k b hk
  own := fun k b hk ho => by rw [← (hblk k b hk).2.2]; exact h.own k b hk ho
  apart := fun j k bj bk hjk hj hk ho => by
    rw [← (hblk j bj hj).2.2, ← (hblk k bk hk).2.2]; exact h.apart j k bj bk hjk hj hk ho
  glob := fun g k hg => by rw [← hgl _ hg]; exact h.glob g k hg
  past := fun hl b hb1 hb2 => by
    have hm : y.ow.map β' = y.ow.map β := List.map_congr_left fun k hk => (how k hk).symm
    rw [← hy] at hb1 ⊢
    rw [hm] at hb2
    exact h.past hl b hb1 hb2
  wksz := by rw [← hy]; exact h.wksz
  keep := h.keep
  sz0 := h.sz0
  os := h.os
  tape := h.tape
  output := h.output
/-- The same memory, under more variables and blocks. -/
theorem Mem.congr (h : Mem X σ.sy σ.blocks σ.gl env β w) (hwf : wf σ = true) (he : ∀ e, e < σ.ne → env' e = env e) (hb : ∀ b, b < σ.blocks.length → β' b = β b) :
    Mem X σ.sy σ.blocks σ.gl env' β' w := by
  refine h.agree (fun k b hk => ?_) (fun p hp => (hb _ ((wf_parts hwf).2.2.1 p hp)).symm) (he _ (wf_parts hwf).2.2.2.1).symm (fun k hk => (hb k ((wf_parts hwf).2.2.2.2 k hk)).symm)
  obtain ⟨w1, w2⟩ := wfB hwf hk
  exact ⟨fun e h => (he e (w1 e h)).symm, fun c h => (hb c (w2 c h)).symm, (hb k (List.getElem?_eq_some_iff.1 hk).1).symm⟩
theorem block_lt_of_cell' {w : World} {b i : Nat} {v : Value} (h : w.cell? ⟨b, i, none⟩ = some v) : b < w.heap.size := by
  unfold World.cell? at h
  split at h
  · rename_i hh
    rcases Nat.lt_or_ge b w.heap.size with h' | h'
    · exact h'
    · rw [Array.getElem?_eq_none h'] at hh; cases hh
  · cases h
theorem Holds.below {k : Nat} {b : Blk} (h : Holds w k b env β) (hb : Below w.heap.size w w') : Holds w' k b env β := by
  unfold Holds at *
  split
  · rename_i ho
    simp only [ho, if_true] at h
    rw [hb.block k (by
      rcases Nat.lt_or_ge k w.heap.size with h' | h'
      · exact h'
      · rw [Array.getElem?_eq_none h'] at h; cases h)]
    exact h
  · rename_i ho
    simp only [ho] at h
    intro i v hi
    have hc := h i v hi
    rw [World.cell?_of_block (w := w) (a := ⟨k, i, none⟩) (hb.block k (block_lt_of_cell' hc))]
    exact hc
theorem Mem.below {y : Sy} {blocks : List (Option Blk)} {gl : List (Nat × Nat)} (h : Mem X y blocks gl env β w) (hX : ∀ b, X.w0.heap.size ≤ b → X.mine b) (hb : Below w.heap.size w w') : Mem X y blocks gl env β w' where
  blk := fun k b hk => ⟨(h.blk k b hk).1.below hb, (h.blk k b hk).2⟩
  inh := fun k b hk => Nat.lt_of_lt_of_le (h.inh k b hk) hb.size
  own := h.own
  apart := h.apart
  glob := h.glob
  past := fun hl b hb1 hb2 => (hb.block b (Nat.lt_of_lt_of_le hb1 h.wksz)).trans (h.past hl b hb1 hb2)
  wksz := Nat.le_trans h.wksz hb.size
  keep := fun b hm => by
    have hlt : b < X.w0.heap.size := by
      rcases Nat.lt_or_ge b X.w0.heap.size with h' | h'
      · exact h'
      · exact absurd (hX b h') hm
    exact (hb.block b (Nat.lt_of_lt_of_le hlt h.sz0)).trans (h.keep b hm)
  sz0 := Nat.le_trans h.sz0 hb.size
  os := hb.os.trans h.os
  tape := hb.tape.trans h.tape
  output := hb.output.trans h.output
theorem Holds.keep {k : Nat} {b : Blk} (h : Holds w k b env β) (_ : k < w.heap.size) (hb : w'.heap[k]? = w.heap[k]?) : Holds w' k b env β := holds_of_block h hb
/-- Behind an effect: its world is the one that memory is like. -/
theorem Mem.eff {y : Sy} {blocks : List (Option Blk)} {gl : List (Nat × Nat)} (h : Mem X y blocks gl env β w) (hX : ∀ b, X.w0.heap.size ≤ b → X.mine b) {md : Bool} {tr : List Nat} (hk : Keeps X md tr w w')
    (htr : md = true → ∀ (k : Nat) (b : Blk), blocks[k]? = some (some b) → β k ∈ tr) {s : Nat} (hs : (env s).2 = w') (lv : Bool) (ow : List Nat) : Mem X ⟨lv, s, ow⟩ blocks gl env β w' where
  blk := fun k b hb => ⟨(h.blk k b hb).1.keep (h.inh k b hb) (hk.block _ (h.inh k b hb) fun hm => .inr (htr hm k b hb)), (h.blk k b hb).2⟩
  inh := fun k b hb => Nat.lt_of_lt_of_le (h.inh k b hb) hk.size
  own := h.own
  apart := h.apart
  glob := h.glob
  past := fun _ b _ _ => by rw [hs]
  wksz := by rw [hs]; exact Nat.le_refl _
  keep := fun b hm => by
    have hlt : b < X.w0.heap.size := by
      rcases Nat.lt_or_ge b X.w0.heap.size with h' | h'
      · exact h'
      · exact absurd (hX b h') hm
    exact (hk.block b (Nat.lt_of_lt_of_le hlt h.sz0) fun _ => .inl hm).trans (h.keep b hm)
  sz0 := Nat.le_trans h.sz0 hk.size
  os := hk.os.trans h.os
  tape := hk.tape.trans h.tape
  output := hk.output.trans h.output
theorem below_alloc (w : World) (o : Obj) : Below w.heap.size w (w.alloc o) := (Below.refl _ _).alloc (Nat.le_refl _) o
theorem below_drew (w : World) : Below w.heap.size w { w with drawn := w.drawn + 1 } := ⟨rfl, rfl, rfl, Nat.le_refl _, fun _ _ => rfl⟩
/-- A block whose place was kept is there. -/
theorem Mem.fill {y : Sy} {blocks : List (Option Blk)} {gl : List (Nat × Nat)} (h : Mem X y blocks gl env β w) (hX : ∀ b, X.w0.heap.size ≤ b → X.mine b) {k : Nat} {b : Blk} (hk : blocks[k]? = some none)
    (hblk : ∀ (j : Nat) (b' : Blk), blocks[j]? = some (some b') → ∀ c ∈ contB b'.cont, c ≠ k) (hgl : ∀ p ∈ gl, p.2 ≠ k) (how : ∀ j ∈ y.ow, j ≠ k)
    (hsz : (b.cont.den env β).size = b.n) (hok : b.cont.ok env) (hown : b.own = true) (hcb : ∀ c ∈ contB b.cont, c ≠ k) :
    Mem X y (blocks.set k (some b)) gl env (upd β k w.heap.size) (w.alloc (.cells (b.cont.den env β) b.ty)) := by
  have hlt : k < blocks.length := (List.getElem?_eq_some_iff.1 hk).1
  have hne : ∀ (j : Nat) (b' : Blk), blocks[j]? = some (some b') → j ≠ k := fun j b' hj he => by subst he; rw [hk] at hj; cases hj
  have hm : Mem X y blocks gl env (upd β k w.heap.size) (w.alloc (.cells (b.cont.den env β) b.ty)) :=
    (h.below hX (below_alloc w _)).agree (fun j b' hj => ⟨fun _ _ => rfl, fun c hc => (upd_ne _ _ (hblk j b' hj c hc)).symm, (upd_ne _ _ (hne j b' hj)).symm⟩) (fun p hp => (upd_ne _ _ (hgl p hp)).symm) rfl (fun j hj => (upd_ne _ _ (how j hj)).symm)
  have hnew : (w.alloc (.cells (b.cont.den env β) b.ty)).heap[w.heap.size]? = some (.cells (b.cont.den env β) b.ty (0, 0)) := Array.getElem?_push_size
  have hget : ∀ (j : Nat) (b' : Blk), (blocks.set k (some b))[j]? = some (some b') → (j ≠ k ∧ blocks[j]? = some (some b')) ∨ (j = k ∧ b' = b) := fun j b' hj => by
    by_cases he : k = j
    · subst he
      rw [List.getElem?_set_self hlt] at hj
      cases hj
      exact .inr ⟨rfl, rfl⟩
    · rw [List.getElem?_set_ne he] at hj
      exact .inl ⟨Ne.symm he, hj⟩
  have hcd : b.cont.den env (upd β k w.heap.size) = b.cont.den env β := Cont.den_congr (fun _ _ => rfl) (fun c hc => upd_ne _ _ (hcb c hc))
  have hold : ∀ (j : Nat) (b' : Blk), blocks[j]? = some (some b') → upd β k w.heap.size j < w.heap.size := fun j b' hj => by
    rw [upd_ne _ _ (hne j b' hj)]; exact h.inh j b' hj
  refine { hm with blk := ?_, inh := ?_, own := ?_, apart := ?_ }
  · intro j b' hj
    rcases hget j b' hj with ⟨_, hj⟩ | ⟨e1, e2⟩
    · exact hm.blk j b' hj
    · subst e1 e2
      rw [hcd, upd_same]
      refine ⟨?_, hsz, hok⟩
      simp only [Holds, hown, if_true]
      rw [hcd]; exact hnew
  · intro j b' hj
    rcases hget j b' hj with ⟨_, hj⟩ | ⟨e1, e2⟩
    · exact hm.inh j b' hj
    · subst e1; rw [upd_same]; simp
  · intro j b' hj ho
    rcases hget j b' hj with ⟨_, hj⟩ | ⟨e1, e2⟩
    · exact hm.own j b' hj ho
    · subst e1; rw [upd_same]; exact hX _ h.sz0
  · intro i j bi bj hij hi hj ho
    rcases hget i bi hi with ⟨_, hi⟩ | ⟨e1, e2⟩
    · rcases hget j bj hj with ⟨_, hj⟩ | ⟨e3, e4⟩
      · exact hm.apart i j bi bj hij hi hj ho
      · have := hold i bi hi
        subst e3
        rw [upd_same]
        omega
    · rcases hget j bj hj with ⟨_, hj⟩ | ⟨e3, e4⟩
      · have := hold j bj hj
        subst e1
        rw [upd_same]
        omega
      · exact absurd (e1.trans e3.symm) hij
/-- One block more. -/
theorem Mem.push (h : Mem X σ.sy σ.blocks σ.gl env β w) (hwf : wf σ = true) (hX : ∀ b, X.w0.heap.size ≤ b → X.mine b) {b : Blk} (hsz : (b.cont.den env β).size = b.n) (hok : b.cont.ok env) (hown : b.own = true)
    (hE : ∀ c ∈ contB b.cont, c < σ.blocks.length) :
    Mem X σ.sy (σ.blocks ++ [some b]) σ.gl env (upd β σ.blocks.length w.heap.size) (w.alloc (.cells (b.cont.den env β) b.ty)) := by
  have h1 : Mem X σ.sy (σ.blocks ++ [none]) σ.gl env β w := { h with
    blk := fun k b hk => h.blk k b (by
      rw [List.getElem?_append] at hk
      split at hk
      · exact hk
      · rcases Nat.eq_zero_or_pos (k - σ.blocks.length) with h' | h'
        · rw [h'] at hk; simp at hk
        · rw [List.getElem?_eq_none (by simp; omega)] at hk; cases hk)
    inh := fun k b hk => h.inh k b (by
      rw [List.getElem?_append] at hk
      split at hk
      · exact hk
      · rcases Nat.eq_zero_or_pos (k - σ.blocks.length) with h' | h'
        · rw [h'] at hk; simp at hk
        · rw [List.getElem?_eq_none (by simp; omega)] at hk; cases hk)
    own := fun k b hk => h.own k b (by
      rw [List.getElem?_append] at hk
      split at hk
      · exact hk
      · rcases Nat.eq_zero_or_pos (k - σ.blocks.length) with h' | h'
        · rw [h'] at hk; simp at hk
        · rw [List.getElem?_eq_none (by simp; omega)] at hk; cases hk)
    apart := fun j k bj bk hjk hj hk => h.apart j k bj bk hjk (by
      rw [List.getElem?_append] at hj
      split at hj
      · exact hj
      · rcases Nat.eq_zero_or_pos (j - σ.blocks.length) with h' | h'
        · rw [h'] at hj; simp at hj
        · rw [List.getElem?_eq_none (by simp; omega)] at hj; cases hj) (by
      rw [List.getElem?_append] at hk
      split at hk
      · exact hk
      · rcases Nat.eq_zero_or_pos (k - σ.blocks.length) with h' | h'
        · rw [h'] at hk; simp at hk
        · rw [List.getElem?_eq_none (by simp; omega)] at hk; cases hk) }
  have h2 := h1.fill hX (k := σ.blocks.length) (b := b) (by simp) (fun j b' hj c hc => ?_) (fun p hp => by have := (wf_parts hwf).2.2.1 p hp; omega) (fun j hj => by have := (wf_parts hwf).2.2.2.2 j hj; omega) hsz hok hown (fun c hc => by have := hE c hc; omega)
  · have e : (σ.blocks ++ [none]).set σ.blocks.length (some b) = σ.blocks ++ [some b] := by simp
    rw [e] at h2
    exact h2
  · rw [List.getElem?_append] at hj
    split at hj
    · have := (wfB hwf hj).2 c hc; omega
    · rcases Nat.eq_zero_or_pos (j - σ.blocks.length) with h' | h'
      · rw [h'] at hj; simp at hj
      · rw [List.getElem?_eq_none (by simp; omega)] at hj; cases hj
/-- One block overwritten. -/
theorem Mem.set {y : Sy} {blocks : List (Option Blk)} {gl : List (Nat × Nat)} (h : Mem X y blocks gl env β w) {k : Nat} {b b0 : Blk} (hk : blocks[k]? = some (some b0)) (ho0 : b0.own = true) (ho : b.own = true)
    (hsz : (b.cont.den env β).size = b.n) (hok : b.cont.ok env) (hset : SetBlk w w' (β k) (.cells (b.cont.den env β) b.ty (0, 0))) :
    Mem X ⟨y.live, y.s, k :: y.ow⟩ (blocks.set k (some b)) gl env β w' := by
  have hlt : k < blocks.length := (List.getElem?_eq_some_iff.1 hk).1
  have hget : ∀ (j : Nat) (b' : Blk), (blocks.set k (some b))[j]? = some (some b') → (j ≠ k ∧ blocks[j]? = some (some b')) ∨ (j = k ∧ b' = b) := fun j b' hj => by
    by_cases he : k = j
    · subst he
      rw [List.getElem?_set_self hlt] at hj
      cases hj
      exact .inr ⟨rfl, rfl⟩
    · rw [List.getElem?_set_ne he] at hj
      exact .inl ⟨Ne.symm he, hj⟩
  have hown := h.own k b0 hk ho0
  refine { blk := ?_, inh := ?_, own := ?_, apart := ?_, glob := h.glob, past := ?_, wksz := ?_, keep := ?_, sz0 := ?_, os := ?_, tape := ?_, output := ?_ }
  · intro j b' hj
    rcases hget j b' hj with ⟨hne, hj⟩ | ⟨rfl, rfl⟩
    · obtain ⟨h1, h2⟩ := h.blk j b' hj
      refine ⟨holds_of_block h1 (hset.other _ ?_), h2⟩
      exact fun he => h.apart k j b0 b' (Ne.symm hne) hk hj ho0 he.symm
    · refine ⟨?_, hsz, hok⟩
      simp only [Holds, ho, if_true]
      exact hset.here
  · intro j b' hj
    rw [hset.size]
    rcases hget j b' hj with ⟨hne, hj⟩ | ⟨rfl, rfl⟩
    · exact h.inh j b' hj
    · exact h.inh _ b0 hk
  · intro j b' hj ho'
    rcases hget j b' hj with ⟨hne, hj⟩ | ⟨rfl, rfl⟩
    · exact h.own j b' hj ho'
    · exact hown
  · intro i j bi bj hij hi hj hoi
    rcases hget i bi hi with ⟨hne, hi'⟩ | ⟨e1, e2⟩
    · rcases hget j bj hj with ⟨hne', hj'⟩ | ⟨e3, e4⟩
      · exact h.apart i j bi bj hij hi' hj' hoi
      · rw [e3]; exact h.apart i k bi b0 hne hi' hk hoi
    · rcases hget j bj hj with ⟨hne', hj'⟩ | ⟨e3, e4⟩
      · rw [e1]; exact h.apart k j b0 bj (Ne.symm hne') hk hj' ho0
      · exact absurd (e1.trans e3.symm) hij
  · intro hl c hc1 hc2
    simp only [List.map_cons, List.mem_cons, not_or] at hc2
    rw [hset.other c hc2.1, h.past hl c hc1 hc2.2]
  · rw [hset.size]; exact h.wksz
  · intro c hc
    rw [hset.other c (fun he => hc (he ▸ hown)), h.keep c hc]
  · rw [hset.size]; exact h.sz0
  · rw [hset.os]; exact h.os
  · rw [hset.tape]; exact h.tape
  · rw [hset.output]; exact h.output
/-! the frame -/
theorem put_size (a : Act) (d : Option Nat) (v : Value) : (a.put d v).tmps.size = a.tmps.size := by cases d <;> simp [Act.put]
theorem put_defers (a : Act) (d : Option Nat) (v : Value) : (a.put d v).defers = a.defers := by cases d <;> rfl
theorem put_get (a : Act) (d : Nat) (v : Value) (t : Nat) : (a.put (some d) v).tmps[t]? = if d = t then (if t < a.tmps.size then some v else none) else a.tmps[t]? := by
  simp only [Act.put, Array.getElem?_setIfInBounds]
  split
  · rename_i h; subst h; rfl
  · rfl
def FrmOk (env : Env) (β : Nat → Nat) (slots : List Slot) (a : Act) : Prop :=
  ∀ (t : Nat) (sl : Slot), slots[t]? = some sl → okSV sl.s = true →
    (conds env β sl.g → a.tmps[t]? = some (sl.s.den env β)) ∧ (¬ conds env β sl.g → a.tmps[t]? = some undef)
theorem FrmOk.congr (h : FrmOk env β σ.slots a) (hwf : wf σ = true) (he : ∀ e, e < σ.ne → env' e = env e) (hb : ∀ b, b < σ.blocks.length → β' b = β b) : FrmOk env' β' σ.slots a := by
  intro t sl hsl hok
  obtain ⟨w1, w2, w3, w4⟩ := wfE hwf hsl
  obtain ⟨h1, h2⟩ := h t sl hsl hok
  have hc : conds env β sl.g ↔ conds env' β' sl.g := conds_congr (fun e h => (he e (w3 e h)).symm) (fun b h => (hb b (w4 b h)).symm)
  rw [SV.den_congr (fun e h => (he e (w1 e h)).symm) (fun b h => (hb b (w2 b h)).symm), hc] at h1
  rw [hc] at h2
  exact ⟨h1, h2⟩
/-- A slot filled. -/
theorem FrmOk.put (h : FrmOk env β σ.slots a) (hsize : a.tmps.size = σ.slots.length) (dst : Option Nat) (s : SV) (g : List (At × Bool)) (v : Value) (hv : (conds env β g → v = s.den env β) ∧ (¬ conds env β g → v = undef)) :
    FrmOk env β (setSlot σ dst s g).slots (a.put dst v) := by
  cases dst with
  | none => exact h
  | some d =>
    intro t sl hsl hok
    simp only [setSlot] at hsl
    rw [put_get]
    by_cases hd : d = t
    · subst hd
      have hlt : d < σ.slots.length := by
        have := (List.getElem?_eq_some_iff.1 hsl).1
        simpa using this
      rw [List.getElem?_set_self hlt] at hsl
      cases hsl
      rw [if_pos rfl, if_pos (by rw [hsize]; exact hlt)]
      exact ⟨fun hc => by rw [hv.1 hc], fun hc => by rw [hv.2 hc]⟩
    · rw [List.getElem?_set_ne hd] at hsl
      rw [if_neg hd]
      exact h t sl hsl hok
end
end Go.Vc

/-
  The engine is sound, part 7: operations in a row.
-/
namespace Go.Vc
open Go Go.RowKit
section
variable {X : Ctx} {A : Ann} {σ : St} {env env' : Env} {β β' : Nat → Nat} {a : Act} {w w' : World} {g : List (At × Bool)} {ls : Nat → List Value → World → Prop}
def gmap (g : List (At × Bool)) (ns : List Nd) : List Nd := ns.map fun n => if g.isEmpty then n else .guard g n
theorem nodes_eq : ∀ (ns : List Nd) (σ : St) (K : St → T), nodes σ g ns K = ndChain (gmap g ns) (K { σ with ne := σ.ne + ns.length })
  | [], σ, K => rfl
  | n :: ns, σ, K => by
    simp only [nodes, gmap, List.map_cons, ndChain, List.length_cons]
    rw [nodes_eq ns]
    simp only [gmap]
    rw [show σ.ne + 1 + ns.length = σ.ne + (ns.length + 1) from by omega]
theorem den_ndChain : ∀ (ns : List Nd) {k : T} {env : Env} {ne : Nat} {nb : Nat}, (ndChain ns k).den X env ne β nb ls →
    PreChain X β ns env ne ∧ ∀ vs, Chain X β ns env ne vs → k.den X (updl env ne vs) (ne + ns.length) β nb ls
  | [], k, env, ne, nb, h => ⟨trivial, fun vs hv => by simp only [Chain] at hv; subst hv; exact h⟩
  | n :: ns, k, env, ne, nb, h => by
    simp only [ndChain, T.den] at h
    refine ⟨⟨h.1, fun v hv => (den_ndChain ns (h.2 v hv)).1⟩, fun vs hv => ?_⟩
    cases vs with
    | nil => exact hv.elim
    | cons v vs =>
      have := (den_ndChain ns (h.2 v hv.1)).2 vs hv.2
      simp only [updl, List.length_cons]
      rw [show ne + (ns.length + 1) = ne + 1 + ns.length from by omega]
      exact this
theorem Sat.G (hs : Sat X σ env β a w) (G : Good X A) : X.G w := G.stable w hs.mem.keep hs.mem.sz0
theorem okSlot_mono {ne nb ne' nb' : Nat} {s : Slot} (h : okSlot ne nb s = true) (h1 : ne ≤ ne') (h2 : nb ≤ nb') : okSlot ne' nb' s = true := by
  simp only [okSlot, okE, okG, Bool.and_eq_true, List.all_eq_true, decide_eq_true_eq] at *
  exact ⟨⟨fun e he => Nat.lt_of_lt_of_le (h.1.1 e he) h1, fun e he => Nat.lt_of_lt_of_le (h.1.2 e he) h2⟩, fun e he => Nat.lt_of_lt_of_le (h.2.1 e he) h1, fun e he => Nat.lt_of_lt_of_le (h.2.2 e he) h2⟩
theorem okC_mono {ne nb ne' nb' : Nat} {c : Cont} (h : okC ne nb c = true) (h1 : ne ≤ ne') (h2 : nb ≤ nb') : okC ne' nb' c = true := by
  simp only [okC, Bool.and_eq_true, List.all_eq_true, decide_eq_true_eq] at *
  exact ⟨fun e he => Nat.lt_of_lt_of_le (h.1 e he) h1, fun e he => Nat.lt_of_lt_of_le (h.2 e he) h2⟩
theorem okB_mono {ne nb ne' nb' : Nat} {b : Option Blk} (h : okB ne nb b = true) (h1 : ne ≤ ne') (h2 : nb ≤ nb') : okB ne' nb' b = true := by
  cases b with
  | none => rfl
  | some b => exact okC_mono h h1 h2
theorem setSlot_slots {d : Option Nat} {s : SV} {s' : Slot} (h : s' ∈ (setSlot σ d s g).slots) : s' ∈ σ.slots ∨ s' = ⟨s, g⟩ := by
  cases d with
  | none => exact .inl h
  | some d => exact (List.mem_or_eq_of_mem_set h)
@[simp] theorem setSlot_blocks (d : Option Nat) (s : SV) : (setSlot σ d s g).blocks = σ.blocks := by cases d <;> rfl
@[simp] theorem setSlot_ne (d : Option Nat) (s : SV) : (setSlot σ d s g).ne = σ.ne := by cases d <;> rfl
@[simp] theorem setSlot_gl (d : Option Nat) (s : SV) : (setSlot σ d s g).gl = σ.gl := by cases d <;> rfl
@[simp] theorem setSlot_sy (d : Option Nat) (s : SV) : (setSlot σ d s g).sy = σ.sy := by cases d <;> rfl
@[simp] theorem setSlot_len (d : Option Nat) (s : SV) : (setSlot σ d s g).slots.length = σ.slots.length := by cases d <;> simp [setSlot]
theorem wf_setSlot {d : Option Nat} {s : SV} (h : wf σ = true) (hs : okSlot σ.ne σ.blocks.length ⟨s, g⟩ = true) : wf (setSlot σ d s g) = true := by
  obtain ⟨h1, h2, h3, h4, h5⟩ := wf_parts h
  have : setSlot σ d s g = ⟨(setSlot σ d s g).slots, σ.blocks, σ.gl, σ.ne, σ.sy⟩ := by cases d <;> rfl
  rw [this]
  refine wf_mk (fun s' hs' => ?_) h2 h3 h4 h5
  rcases setSlot_slots hs' with h' | h'
  · exact h1 s' h'
  · subst h'; exact hs
theorem wf_ne (h : wf σ = true) (n : Nat) : wf { σ with ne := σ.ne + n } = true := by
  obtain ⟨h1, h2, h3, h4, h5⟩ := wf_parts h
  exact wf_mk (fun s hs => okSlot_mono (h1 s hs) (by omega) (Nat.le_refl _)) (fun b hb => okB_mono (h2 b hb) (by omega) (Nat.le_refl _)) h3 (by omega) h5
theorem wf_push (h : wf σ = true) {b : Blk} (hb : okC σ.ne σ.blocks.length b.cont = true) : wf { σ with blocks := σ.blocks ++ [some b] } = true := by
  obtain ⟨h1, h2, h3, h4, h5⟩ := wf_parts h
  refine wf_mk (fun s hs => okSlot_mono (h1 s hs) (Nat.le_refl _) (by simp)) (fun b' hb' => ?_) (fun p hp => by have := h3 p hp; simp; omega) h4 (fun k hk => by have := h5 k hk; simp; omega)
  rcases List.mem_append.1 hb' with h' | h'
  · exact okB_mono (h2 b' h') (Nat.le_refl _) (by simp)
  · simp at h'; subst h'; exact okC_mono hb (Nat.le_refl _) (by simp)
theorem wf_set (h : wf σ = true) {b : Blk} {k : Nat} (hk : k < σ.blocks.length) (hb : okC σ.ne σ.blocks.length b.cont = true) (lv : Bool) : wf { σ with blocks := σ.blocks.set k (some b), sy := ⟨lv, σ.sy.s, k :: σ.sy.ow⟩ } = true := by
  obtain ⟨h1, h2, h3, h4, h5⟩ := wf_parts h
  refine wf_mk (fun s hs => by rw [List.length_set]; exact h1 s hs) (fun b' hb' => ?_) (fun p hp => by rw [List.length_set]; exact h3 p hp) h4 (fun k' hk' => by
    rw [List.length_set]
    rcases List.mem_cons.1 hk' with h | h
    · subst h; exact hk
    · exact h5 k' h)
  rw [List.length_set]
  rcases List.mem_or_eq_of_mem_set hb' with h' | h'
  · exact h2 b' h'
  · subst h'; exact hb
theorem wf_sy (h : wf σ = true) {s : Nat} (hs : s < σ.ne) (lv : Bool) : wf { σ with sy := ⟨lv, s, []⟩ } = true := by
  obtain ⟨h1, h2, h3, h4, h5⟩ := wf_parts h
  exact wf_mk h1 h2 h3 hs (fun k hk => by cases hk)
theorem Sat.congr (h : Sat X σ env β a w) (hwf : wf σ = true) (he : ∀ e, e < σ.ne → env' e = env e) (hb : ∀ b, b < σ.blocks.length → β' b = β b) (ne : Nat) :
    Sat X { σ with ne := ne } env' β' a w :=
  ⟨h.mem.congr hwf he hb, h.defers, h.size, FrmOk.congr (σ := σ) h.slot hwf he hb⟩
theorem Ext.setSlot (σ : St) (env : Env) (β : Nat → Nat) (d : Option Nat) (s : SV) (g : List (At × Bool)) : Ext σ env β (setSlot σ d s g) env β :=
  ⟨by rw [setSlot_ne]; exact Nat.le_refl _, by rw [setSlot_blocks]; exact Nat.le_refl _, fun _ _ => rfl, fun _ _ => rfl⟩
abbrev Cont' (X : Ctx) (σ : St) (env : Env) (β : Nat → Nat) (ls : Nat → List Value → World → Prop) (K : St → T) (K' : Act → World → Prop) : Prop :=
  ∀ σ' env' β' a' w', wf σ' = true → Sat X σ' env' β' a' w' → Ext σ env β σ' env' β' → (K σ').den X env' σ'.ne β' σ'.blocks.length ls → K' a' w'
theorem after_sound (G : Good X A) (hwf : wf σ = true) (hs : Sat X σ env β a w) {r : Res} (hok : okRes σ r = true) {dst : Option Nat} {K : St → T} {K' : Act → World → Prop}
    (hden : ∀ vs, Chain X β r.nds env σ.ne vs → (finish { σ with ne := σ.ne + r.nds.length } dst [] r.fin K).den X (updl env σ.ne vs) (σ.ne + r.nds.length) β σ.blocks.length ls)
    (hK : Cont' X σ env β ls K K') : After X σ env β a w dst r K' := by
  simp only [okRes, Bool.and_eq_true] at hok
  obtain ⟨_, hokF⟩ := hok
  have hvenv : ∀ vs : List Val, ∀ e, e < σ.ne → updl env σ.ne vs e = env e := fun vs e he => updl_lt _ _ _ _ he
  have hx : ∀ vs : List Val, Ext σ env β { σ with ne := σ.ne + r.nds.length } (updl env σ.ne vs) β := fun vs => ⟨by simp, Nat.le_refl _, hvenv vs, fun _ _ => rfl⟩
  have hsv : ∀ vs : List Val, Sat X { σ with ne := σ.ne + r.nds.length } (updl env σ.ne vs) β a w := fun vs => hs.congr hwf (hvenv vs) (fun _ _ => rfl) _
  have hwf1 : wf { σ with ne := σ.ne + r.nds.length } = true := wf_ne hwf _
  obtain ⟨nds, fin⟩ := r
  cases fin with
  | val s =>
    intro vs w' hv hb
    have h1 := hden vs hv
    simp only [finish] at h1
    have hs1 := hsv vs
    have hokS : okSlot (σ.ne + nds.length) σ.blocks.length ⟨s, []⟩ = true := by simp only [okSlot, Bool.and_eq_true]; exact ⟨hokF, rfl⟩
    refine hK (setSlot { σ with ne := σ.ne + nds.length } dst s []) _ _ _ _ (wf_setSlot hwf1 hokS) ⟨by rw [setSlot_blocks, setSlot_gl, setSlot_sy]; exact (hs1.mem.below G.fresh hb), by rw [put_defers]; exact hs.defers, by rw [put_size, setSlot_len]; exact hs.size, ?_⟩ ((hx vs).trans (Ext.setSlot _ _ _ _ _ _)) (by simpa using h1)
    exact FrmOk.put (σ := { σ with ne := σ.ne + nds.length }) hs1.slot hs.size dst s [] _ ⟨fun _ => rfl, fun h => absurd (fun x hx => by cases hx) h⟩
  | newb b =>
    intro vs hv hsz hcok hown
    have h1 := hden vs hv
    simp only [finish, T.den] at h1
    have hs1 := hsv vs
    have hokC : okC (σ.ne + nds.length) σ.blocks.length b.cont = true := hokF
    have hcB : ∀ c ∈ contB b.cont, c < σ.blocks.length := fun c hc => by
      simp only [okC, Bool.and_eq_true, List.all_eq_true, decide_eq_true_eq] at hokC; exact hokC.2 c hc
    have hm := Mem.push (σ := { σ with ne := σ.ne + nds.length }) hs1.mem hwf1 G.fresh hsz hcok hown hcB
    have hwf2 : wf { σ with ne := σ.ne + nds.length, blocks := σ.blocks ++ [some b] } = true := wf_push (σ := { σ with ne := σ.ne + nds.length }) hwf1 hokC
    have hx2 : Ext { σ with ne := σ.ne + nds.length } (updl env σ.ne vs) β { σ with ne := σ.ne + nds.length, blocks := σ.blocks ++ [some b] } (updl env σ.ne vs) (upd β σ.blocks.length w.heap.size) :=
      ⟨Nat.le_refl _, by simp, fun _ _ => rfl, fun k hk => upd_ne _ _ (by simp at hk; omega)⟩
    have hokS : okSlot (σ.ne + nds.length) (σ.blocks ++ [some b]).length ⟨.x (.p σ.blocks.length 0), []⟩ = true := by
      simp [okSlot, okE, okG, svE, svB, atE, atB, gE, gB]
    have hf : FrmOk (updl env σ.ne vs) (upd β σ.blocks.length w.heap.size) σ.slots a := FrmOk.congr (σ := { σ with ne := σ.ne + nds.length }) hs1.slot hwf1 (fun _ _ => rfl) (fun k hk => upd_ne _ _ (by simp at hk; omega))
    refine hK (setSlot { σ with ne := σ.ne + nds.length, blocks := σ.blocks ++ [some b] } dst (.x (.p σ.blocks.length 0)) []) _ _ _ _ (wf_setSlot hwf2 hokS) ⟨by rw [setSlot_blocks, setSlot_gl, setSlot_sy]; exact hm, by rw [put_defers]; exact hs.defers, by rw [put_size, setSlot_len]; exact hs.size, ?_⟩
      (((hx vs).trans hx2).trans (Ext.setSlot _ _ _ _ _ _)) (by simpa using h1 w.heap.size hs1.mem.wksz)
    refine FrmOk.put (σ := { σ with ne := σ.ne + nds.length, blocks := σ.blocks ++ [some b] }) hf hs.size dst _ [] _ ⟨fun _ => ?_, fun h => absurd (fun x hx => by cases hx) h⟩
    simp [SV.den, At.den, upd_same]
  | newsl b len =>
    intro vs hv hsz hcok hown
    have h1 := hden vs hv
    simp only [finish, T.den] at h1
    have hs1 := hsv vs
    have hokC : okC (σ.ne + nds.length) σ.blocks.length b.cont = true := hokF
    have hcB : ∀ c ∈ contB b.cont, c < σ.blocks.length := fun c hc => by
      simp only [okC, Bool.and_eq_true, List.all_eq_true, decide_eq_true_eq] at hokC; exact hokC.2 c hc
    have hm := Mem.push (σ := { σ with ne := σ.ne + nds.length }) hs1.mem hwf1 G.fresh hsz hcok hown hcB
    have hwf2 : wf { σ with ne := σ.ne + nds.length, blocks := σ.blocks ++ [some b] } = true := wf_push (σ := { σ with ne := σ.ne + nds.length }) hwf1 hokC
    have hx2 : Ext { σ with ne := σ.ne + nds.length } (updl env σ.ne vs) β { σ with ne := σ.ne + nds.length, blocks := σ.blocks ++ [some b] } (updl env σ.ne vs) (upd β σ.blocks.length w.heap.size) :=
      ⟨Nat.le_refl _, by simp, fun _ _ => rfl, fun k hk => upd_ne _ _ (by simp at hk; omega)⟩
    have hokS : okSlot (σ.ne + nds.length) (σ.blocks ++ [some b]).length ⟨.x (.sl σ.blocks.length 0 len len), []⟩ = true := by
      simp [okSlot, okE, okG, svE, svB, atE, atB, gE, gB]
    have hf : FrmOk (updl env σ.ne vs) (upd β σ.blocks.length w.heap.size) σ.slots a := FrmOk.congr (σ := { σ with ne := σ.ne + nds.length }) hs1.slot hwf1 (fun _ _ => rfl) (fun k hk => upd_ne _ _ (by simp at hk; omega))
    refine hK (setSlot { σ with ne := σ.ne + nds.length, blocks := σ.blocks ++ [some b] } dst (.x (.sl σ.blocks.length 0 len len)) []) _ _ _ _ (wf_setSlot hwf2 hokS) ⟨by rw [setSlot_blocks, setSlot_gl, setSlot_sy]; exact hm, by rw [put_defers]; exact hs.defers, by rw [put_size, setSlot_len]; exact hs.size, ?_⟩
      (((hx vs).trans hx2).trans (Ext.setSlot _ _ _ _ _ _)) (by simpa using h1 w.heap.size hs1.mem.wksz)
    refine FrmOk.put (σ := { σ with ne := σ.ne + nds.length, blocks := σ.blocks ++ [some b] }) hf hs.size dst _ [] _ ⟨fun _ => ?_, fun h => absurd (fun x hx => by cases hx) h⟩
    simp [SV.den, At.den, upd_same]
  | setb k b =>
    intro vs w' hv hsz hcok hex hset
    have h1 := hden vs hv
    simp only [finish] at h1
    have hs1 := hsv vs
    simp only [okF, Bool.and_eq_true, decide_eq_true_eq] at hokF
    obtain ⟨b0, hk0, ho0, ho, hty, hn⟩ := hex
    have hm := Mem.set hs1.mem hk0 ho0 ho hsz hcok hset
    have hwf2 : wf { σ with ne := σ.ne + nds.length, blocks := σ.blocks.set k (some b), sy := ⟨σ.sy.live, σ.sy.s, k :: σ.sy.ow⟩ } = true := wf_set (σ := { σ with ne := σ.ne + nds.length }) hwf1 hokF.2 hokF.1 _
    have hx2 : Ext { σ with ne := σ.ne + nds.length } (updl env σ.ne vs) β { σ with ne := σ.ne + nds.length, blocks := σ.blocks.set k (some b), sy := ⟨σ.sy.live, σ.sy.s, k :: σ.sy.ow⟩ } (updl env σ.ne vs) β :=
      ⟨Nat.le_refl _, by simp, fun _ _ => rfl, fun _ _ => rfl⟩
    refine hK (setSlot { σ with ne := σ.ne + nds.length, blocks := σ.blocks.set k (some b), sy := ⟨σ.sy.live, σ.sy.s, k :: σ.sy.ow⟩ } dst (.x (.c undef)) []) _ _ _ _ (wf_setSlot hwf2 rfl) ⟨by rw [setSlot_blocks, setSlot_gl, setSlot_sy]; exact hm, by rw [put_defers]; exact hs.defers, by rw [put_size, setSlot_len]; exact hs.size, ?_⟩
      (((hx vs).trans hx2).trans (Ext.setSlot _ _ _ _ _ _)) (by simpa using h1)
    exact FrmOk.put (σ := { σ with ne := σ.ne + nds.length, blocks := σ.blocks.set k (some b), sy := ⟨σ.sy.live, σ.sy.s, k :: σ.sy.ow⟩ }) hs1.slot hs.size dst _ [] _ ⟨fun _ => rfl, fun h => absurd (fun x hx => by cases hx) h⟩
  | eff s md =>
    intro vs w' hv hpos hw hk
    have h1 := hden vs hv
    simp only [finish] at h1
    have hs1 := hsv vs
    have hokS : okSlot (σ.ne + nds.length) σ.blocks.length ⟨s, []⟩ = true := by simp only [okSlot, Bool.and_eq_true]; exact ⟨hokF, rfl⟩
    have hwf2 : wf { σ with ne := σ.ne + nds.length, sy := ⟨σ.sy.live, σ.ne + nds.length - 1, []⟩ } = true := wf_sy (σ := { σ with ne := σ.ne + nds.length }) hwf1 (by simp only at hpos ⊢; omega) _
    have hm := hs1.mem.eff G.fresh hk (fun _ k b hb => List.mem_map.2 ⟨(k, b), by simpa using knownBl_mem σ.blocks 0 k b hb, rfl⟩) hw σ.sy.live []
    refine hK (setSlot { σ with ne := σ.ne + nds.length, sy := ⟨σ.sy.live, σ.ne + nds.length - 1, []⟩ } dst s []) _ _ _ _ (wf_setSlot hwf2 hokS) ⟨by rw [setSlot_blocks, setSlot_gl, setSlot_sy]; exact hm, by rw [put_defers]; exact hs.defers, by rw [put_size, setSlot_len]; exact hs.size, ?_⟩
      (((hx vs).trans (σ'' := { σ with ne := σ.ne + nds.length, sy := ⟨σ.sy.live, σ.ne + nds.length - 1, []⟩ }) ⟨Nat.le_refl _, Nat.le_refl _, fun _ _ => rfl, fun _ _ => rfl⟩).trans (Ext.setSlot _ _ _ _ _ _)) (by simpa using h1)
    exact FrmOk.put (σ := { σ with ne := σ.ne + nds.length, sy := ⟨σ.sy.live, σ.ne + nds.length - 1, []⟩ }) hs1.slot hs.size dst s [] _ ⟨fun _ => rfl, fun h => absurd (fun x hx => by cases hx) h⟩
/-! guarded -/
theorem conds_nil (env : Env) (β : Nat → Nat) : conds env β [] := conds_iff.2 fun _ hx => by cases hx
theorem chain_guard (hg : conds env β g) : ∀ {ns : List Nd} {env1 : Env} {ne : Nat} {vs : List Val}, (∀ e ∈ gE g, e < ne) → (∀ e ∈ gE g, env1 e = env e) → Chain X β ns env1 ne vs → Chain X β (gmap g ns) env1 ne vs
  | [], _, _, _, _, _, h => h
  | _ :: _, _, _, [], _, _, h => h.elim
  | n :: ns, env1, ne, v :: vs, hlt, he, h => by
    refine ⟨?_, chain_guard hg (ns := ns) (fun e h' => by have := hlt e h'; omega) (fun e h' => by rw [upd_ne _ _ (by have := hlt e h'; omega)]; exact he e h') h.2⟩
    show Nd.den X env1 β v (if g.isEmpty then n else .guard g n)
    split
    · exact h.1
    · simp only [Nd.den]
      exact ⟨fun _ => h.1, fun hn => absurd ((conds_congr (fun e h' => (he e h').symm) (fun _ _ => rfl)).1 hg) hn⟩
theorem pre_guard (hg : conds env β g) : ∀ {ns : List Nd} {env1 : Env} {ne : Nat}, (∀ e ∈ gE g, e < ne) → (∀ e ∈ gE g, env1 e = env e) → PreChain X β (gmap g ns) env1 ne → PreChain X β ns env1 ne
  | [], _, _, _, _, _ => trivial
  | n :: ns, env1, ne, hlt, he, h => by
    have hc : conds env1 β g := (conds_congr (fun e h' => (he e h').symm) (fun _ _ => rfl)).1 hg
    have h1 : Nd.pre X env1 β (if g.isEmpty then n else .guard g n) := h.1
    have h2 : ∀ v, Nd.den X env1 β v (if g.isEmpty then n else .guard g n) → PreChain X β (gmap g ns) (upd env1 ne v) (ne + 1) := h.2
    by_cases hgE : g.isEmpty = true
    · rw [if_pos hgE] at h1 h2
      exact ⟨h1, fun v hv => pre_guard hg (fun e h' => by have := hlt e h'; omega) (fun e h' => by rw [upd_ne _ _ (by have := hlt e h'; omega)]; exact he e h') (h2 v hv)⟩
    · rw [if_neg hgE] at h1 h2
      simp only [Nd.pre] at h1
      simp only [Nd.den] at h2
      exact ⟨h1 hc, fun v hv => pre_guard hg (fun e h' => by have := hlt e h'; omega) (fun e h' => by rw [upd_ne _ _ (by have := hlt e h'; omega)]; exact he e h') (h2 v ⟨fun _ => hv, fun hn => absurd hc hn⟩)⟩
theorem Mem.resync {y : Sy} {blocks : List (Option Blk)} {gl : List (Nat × Nat)} (h : Mem X y blocks gl env β w) {s : Nat} (hs : (env s).2 = (env y.s).2) : Mem X ⟨y.live, s, y.ow⟩ blocks gl env β w :=
  { h with past := fun hl b h1 h2 => by rw [hs] at h1 ⊢; exact h.past hl b h1 h2, wksz := by rw [hs]; exact h.wksz }
/-- What a node under conditions that do not hold yields. -/
def offVal (X : Ctx) (env : Env) (n : Nd) : Val := (undef, match n.sync? with | some s => (env s).2 | none => X.w0)
def offVals (X : Ctx) : List Nd → Env → Nat → List Val
  | [], _, _ => []
  | n :: ns, env, ne => offVal X env n :: offVals X ns (upd env ne (offVal X env n)) (ne + 1)
theorem chain_off (hgn : g.isEmpty = false) (hg : ¬ conds env β g) : ∀ {ns : List Nd} {env1 : Env} {ne : Nat}, (∀ e ∈ gE g, e < ne) → (∀ e ∈ gE g, env1 e = env e) → Chain X β (gmap g ns) env1 ne (offVals X ns env1 ne)
  | [], _, _, _, _ => rfl
  | n :: ns, env1, ne, hlt, he => by
    have hc : ¬ conds env1 β g := fun h => hg ((conds_congr (fun e h' => (he e h').symm) (fun _ _ => rfl)).2 h)
    refine ⟨?_, chain_off hgn hg (fun e h' => by have := hlt e h'; omega) (fun e h' => by rw [upd_ne _ _ (by have := hlt e h'; omega)]; exact he e h')⟩
    show Nd.den X env1 β (offVal X env1 n) (if g.isEmpty then n else .guard g n)
    rw [hgn, if_neg (by simp)]
    simp only [Nd.den]
    refine ⟨fun h => absurd h hc, fun _ => ?_⟩
    cases hq : n.sync? with
    | none => trivial
    | some s => simp only [offW, offVal, hq]
theorem effOk_spec {s : Nat} {r : Res} (h : effOk s r = true) : ∃ n, r.nds = [n] ∧ n.sync? = some s := by
  unfold effOk at h
  split at h
  · rename_i n hn
    exact ⟨n, hn, by simpa using h⟩
  · cases h
/-- An operation that is carried out under conditions. -/
theorem go_sound (G : Good X A) {o : Oper} (hwf : wf σ = true) (hs : Sat X σ env β a w) {K : St → T} {K' : Act → World → Prop} {Q : Exit → Act → World → Prop} (hK : Cont' X σ env β ls K K') (g : List (At × Bool))
    (hd : (execOp1.go X.P A σ o K g).den X env σ.ne β σ.blocks.length ls) : (conds env β g → o.wp X.P a w K' Q) ∧ (g.isEmpty = false → ¬ conds env β g → K' (a.put o.dst undef) w) := by
  simp only [execOp1.go] at hd
  split at hd
  · rename_i r hr
    split at hd
    · simp only [T.den] at hd
    · rename_i hok
      simp only [Bool.not_eq_true', Bool.not_eq_false] at hok
      simp only [Bool.and_eq_true] at hok
      obtain ⟨hok1, hok2⟩ := hok
      have hgE : ∀ e ∈ gE g, e < σ.ne := fun e he => by
        simp only [okG, Bool.and_eq_true, List.all_eq_true, decide_eq_true_eq] at hok2; exact hok2.1 e he
      split at hd
      · -- no conditions
        rw [nodes_eq] at hd
        have hgm : gmap [] r.nds = r.nds := by simp [gmap]
        rw [hgm] at hd
        obtain ⟨hp, hk⟩ := den_ndChain _ hd
        refine ⟨fun hg => ?_, fun h => by simp at h⟩
        exact step_sound G hs hg hwf hr hp (hs.G G) (after_sound G hwf hs hok1 hk hK)
      · -- a value under conditions
        rename_i g _ _ s hg' hfin
        rw [nodes_eq] at hd
        obtain ⟨hp, hk⟩ := den_ndChain _ hd
        have hgl : (gmap g r.nds).length = r.nds.length := by simp [gmap]
        rw [hgl] at hk
        have hokS : okSlot (σ.ne + r.nds.length) σ.blocks.length ⟨s, g⟩ = true := by
          simp only [okRes, Bool.and_eq_true, hfin] at hok1
          simp only [okSlot, Bool.and_eq_true]
          refine ⟨hok1.2, ?_⟩
          simp only [okG, Bool.and_eq_true, List.all_eq_true, decide_eq_true_eq] at hok2 ⊢
          exact ⟨fun e he => Nat.lt_of_lt_of_le (hok2.1 e he) (by omega), hok2.2⟩
        have hvenv : ∀ vs : List Val, ∀ e, e < σ.ne → updl env σ.ne vs e = env e := fun vs e he => updl_lt _ _ _ _ he
        have hwf1 : wf { σ with ne := σ.ne + r.nds.length } = true := wf_ne hwf _
        have hfinish : ∀ (vs : List Val) (w' : World) (v : Value), Chain X β (gmap g r.nds) env σ.ne vs → Below w.heap.size w w' →
            ((conds env β g → v = s.den (updl env σ.ne vs) β) ∧ (¬ conds env β g → v = undef)) → K' (a.put o.dst v) w' := fun vs w' v hv hb hvv => by
          have h1 := hk vs hv
          simp only [finish] at h1
          have hs1 : Sat X { σ with ne := σ.ne + r.nds.length } (updl env σ.ne vs) β a w := hs.congr hwf (hvenv vs) (fun _ _ => rfl) _
          have hcc : conds (updl env σ.ne vs) β g ↔ conds env β g := conds_congr (fun e he => hvenv vs e (hgE e he)) (fun _ _ => rfl)
          refine hK (setSlot { σ with ne := σ.ne + r.nds.length } o.dst s g) (updl env σ.ne vs) β _ _ (wf_setSlot hwf1 hokS) ⟨by rw [setSlot_blocks, setSlot_gl, setSlot_sy]; exact hs1.mem.below G.fresh hb, by rw [put_defers]; exact hs.defers, by rw [put_size, setSlot_len]; exact hs.size, ?_⟩
            (Ext.trans (σ' := { σ with ne := σ.ne + r.nds.length }) ⟨by simp, Nat.le_refl _, hvenv vs, fun _ _ => rfl⟩ (Ext.setSlot _ _ _ _ _ _)) (by simpa using h1)
          exact FrmOk.put (σ := { σ with ne := σ.ne + r.nds.length }) hs1.slot hs.size o.dst s g _ (by rw [hcc]; exact hvv)
        refine ⟨fun hg => ?_, fun hgn hg => ?_⟩
        · refine step_sound G hs hg hwf hr (pre_guard hg hgE (fun _ _ => rfl) hp) (hs.G G) ?_
          obtain ⟨nds, fin⟩ := r
          simp only at hfin
          subst hfin
          exact fun vs w' hv hb => hfinish vs w' _ (chain_guard hg hgE (fun _ _ => rfl) hv) hb ⟨fun _ => rfl, fun h => absurd hg h⟩
        · exact hfinish _ w undef (chain_off hgn hg hgE (fun _ _ => rfl)) (Below.refl _ _) ⟨fun h => absurd h hg, fun _ => rfl⟩
      · -- an effect under conditions
        rename_i g _ _ s md hg' hfin
        split at hd
        · rename_i heff
          rw [nodes_eq] at hd
          obtain ⟨hp, hk⟩ := den_ndChain _ hd
          have hgl : (gmap g r.nds).length = r.nds.length := by simp [gmap]
          rw [hgl] at hk
          obtain ⟨nd, hnd, hsync⟩ := effOk_spec heff
          have hlen : r.nds.length = 1 := by rw [hnd]; rfl
          have hgn : g.isEmpty = false := by cases g with | nil => exact absurd rfl hg' | cons => rfl
          have hokS : okSlot (σ.ne + r.nds.length) σ.blocks.length ⟨s, g⟩ = true := by
            simp only [okRes, Bool.and_eq_true, hfin] at hok1
            simp only [okSlot, Bool.and_eq_true]
            refine ⟨hok1.2, ?_⟩
            simp only [okG, Bool.and_eq_true, List.all_eq_true, decide_eq_true_eq] at hok2 ⊢
            exact ⟨fun e he => Nat.lt_of_lt_of_le (hok2.1 e he) (by omega), hok2.2⟩
          have hvenv : ∀ vs : List Val, ∀ e, e < σ.ne → updl env σ.ne vs e = env e := fun vs e he => updl_lt _ _ _ _ he
          have hwf1 : wf { σ with ne := σ.ne + r.nds.length } = true := wf_ne hwf _
          have hwf2 : wf { σ with ne := σ.ne + r.nds.length, sy := ⟨σ.sy.live, σ.ne + r.nds.length - 1, σ.sy.ow⟩ } = true := by
            obtain ⟨q1, q2, q3, q4, q5⟩ := wf_parts hwf1
            exact wf_mk q1 q2 q3 (by show σ.ne + r.nds.length - 1 < σ.ne + r.nds.length; omega) q5
          have hfinish : ∀ (vs : List Val) (w' : World) (v : Value), Chain X β (gmap g r.nds) env σ.ne vs → Mem X ⟨σ.sy.live, σ.ne + r.nds.length - 1, σ.sy.ow⟩ σ.blocks σ.gl (updl env σ.ne vs) β w' →
              ((conds env β g → v = s.den (updl env σ.ne vs) β) ∧ (¬ conds env β g → v = undef)) → K' (a.put o.dst v) w' := fun vs w' v hv hm hvv => by
            have h1 := hk vs hv
            simp only [finish, hgn, Bool.false_eq_true, if_false] at h1
            have hs1 : Sat X { σ with ne := σ.ne + r.nds.length } (updl env σ.ne vs) β a w := hs.congr hwf (hvenv vs) (fun _ _ => rfl) _
            have hcc : conds (updl env σ.ne vs) β g ↔ conds env β g := conds_congr (fun e he => hvenv vs e (hgE e he)) (fun _ _ => rfl)
            refine hK (setSlot { σ with ne := σ.ne + r.nds.length, sy := ⟨σ.sy.live, σ.ne + r.nds.length - 1, σ.sy.ow⟩ } o.dst s g) (updl env σ.ne vs) β _ _ (wf_setSlot hwf2 hokS) ⟨by rw [setSlot_blocks, setSlot_gl, setSlot_sy]; exact hm, by rw [put_defers]; exact hs.defers, by rw [put_size, setSlot_len]; exact hs.size, ?_⟩
              (Ext.trans (σ' := { σ with ne := σ.ne + r.nds.length, sy := ⟨σ.sy.live, σ.ne + r.nds.length - 1, σ.sy.ow⟩ }) ⟨by simp, Nat.le_refl _, hvenv vs, fun _ _ => rfl⟩ (Ext.setSlot _ _ _ _ _ _)) (by simpa using h1)
            exact FrmOk.put (σ := { σ with ne := σ.ne + r.nds.length, sy := ⟨σ.sy.live, σ.ne + r.nds.length - 1, σ.sy.ow⟩ }) hs1.slot hs.size o.dst s g _ (by rw [hcc]; exact hvv)
          have hs1 : ∀ vs : List Val, Mem X σ.sy σ.blocks σ.gl (updl env σ.ne vs) β w := fun vs => hs.mem.congr hwf (hvenv vs) (fun _ _ => rfl)
          refine ⟨fun hg => ?_, fun _ hg => ?_⟩
          · refine step_sound G hs hg hwf hr (pre_guard hg hgE (fun _ _ => rfl) hp) (hs.G G) ?_
            unfold After
            rw [hfin]
            simp only
            intro vs w' hv hpos hw hk'
            refine hfinish vs w' _ (chain_guard hg hgE (fun _ _ => rfl) hv) ?_ ⟨fun _ => rfl, fun h => absurd hg h⟩
            exact (hs1 vs).eff G.fresh hk' (fun _ k b hb => List.mem_map.2 ⟨(k, b), by simpa using knownBl_mem σ.blocks 0 k b hb, rfl⟩) hw σ.sy.live σ.sy.ow
          · refine hfinish _ w undef (chain_off hgn hg hgE (fun _ _ => rfl)) ((hs1 _).resync ?_) ⟨fun h => absurd h hg, fun _ => rfl⟩
            rw [hnd]
            have hlt := (wf_parts hwf).2.2.2.1
            simp only [offVals, updl, List.length_cons, List.length_nil, offVal, hsync]
            rw [show σ.ne + (0 + 1) - 1 = σ.ne from by omega, upd_same, upd_ne _ _ (by omega)]
        · simp only [T.den] at hd
      · simp only [T.den] at hd
  · simp only [T.den] at hd
/-- A step of a walk over operations in a row. -/
theorem execOp1_sound (G : Good X A) {ops : Array Oper} {o : Oper} (hwf : wf σ = true) (hs : Sat X σ env β a w) {K : St → T} {K' : Act → World → Prop} {Q : Exit → Act → World → Prop}
    (hden : (execOp1 X.P A ops σ o K).den X env σ.ne β σ.blocks.length ls) (hK : Cont' X σ env β ls K K') :
    if Region.wanted o (yielded ops a.tmps) then o.wp X.P a w K' Q else K' (a.put o.dst undef) w := by
  have hgo : ∀ (g : List (At × Bool)), (execOp1.go X.P A σ o K g).den X env σ.ne β σ.blocks.length ls →
      (conds env β g → o.wp X.P a w K' Q) ∧ (g.isEmpty = false → ¬ conds env β g → K' (a.put o.dst undef) w) := fun g hd => go_sound G hwf hs hK g hd
  unfold execOp1 at hden
  cases hgd : o.guard with
  | none =>
    simp only [hgd] at hden
    have hw : Region.wanted o (yielded ops a.tmps) = true := by simp [Region.wanted, hgd]
    rw [if_pos hw]
    exact (hgo [] hden).1 (conds_nil _ _)
  | some jw =>
    obtain ⟨j, want⟩ := jw
    simp only [hgd] at hden
    have hwant : Region.wanted o (yielded ops a.tmps) = (yielded ops a.tmps j == some want) := by simp [Region.wanted, hgd]
    rw [hwant]
    split at hden
    · simp only [T.den] at hden
    · rename_i d hd
      have hy : yielded ops a.tmps j = match a.tmps[d]? with | some (.bool b) => some b | _ => none := by
        unfold yielded; rw [hd]; rfl
      rw [hy]
      split at hden
      · rename_i i g hslot
        obtain ⟨h1, h2⟩ := hs.slot d _ hslot rfl
        obtain ⟨hg1, hg2⟩ := hgo (g ++ [(.v i, want)]) hden
        have hne : (g ++ [(At.v i, want)]).isEmpty = false := by cases g <;> rfl
        by_cases hc : conds env β g
        · have ht := h1 hc
          simp only [SV.den, At.den] at ht
          rw [ht]
          by_cases hb : (env i).1 = .bool want
          · rw [hb]
            simp only [beq_self_eq_true, if_true]
            exact hg1 (conds_iff.2 fun q hq => by
              rcases List.mem_append.1 hq with hq | hq
              · exact conds_iff.1 hc q hq
              · simp at hq; subst hq; exact hb)
          · rw [if_neg (by
              intro h
              cases he : (env i).1 with
              | bool b => rw [he] at h; simp at h; subst h; exact hb he
              | _ => rw [he] at h; simp at h)]
            exact hg2 hne (fun h => hb (conds_iff.1 h (.v i, want) (by simp)))
        · have ht := h2 hc
          rw [ht]
          rw [if_neg (by simp [undef])]
          exact hg2 hne (fun h => hc (conds_iff.2 fun q hq => conds_iff.1 h q (by simp [hq])))
      · rename_i t hslot
        obtain ⟨h1, _⟩ := hs.slot d _ hslot rfl
        have ht := h1 (conds_nil _ _)
        simp only [SV.den, At.den] at ht
        rw [ht]
        split at hden
        · rename_i hcm
          simp only [beq_iff_eq] at hcm
          subst hcm
          simp only [beq_self_eq_true, if_true]
          exact (hgo [] hden).1 (conds_nil _ _)
        · rename_i hcm
          rw [if_neg (by simpa using hcm)]
          exact hK (setSlot σ o.dst (.x (.c undef)) []) env β _ _ (wf_setSlot hwf rfl) ⟨by rw [setSlot_blocks, setSlot_gl, setSlot_sy]; exact hs.mem, by rw [put_defers]; exact hs.defers, by rw [put_size, setSlot_len]; exact hs.size,
            FrmOk.put hs.slot hs.size o.dst _ [] _ ⟨fun _ => rfl, fun h => absurd (conds_nil _ _) h⟩⟩ (Ext.setSlot _ _ _ _ _ _) (by simpa using hden)
      · simp only [T.den] at hden
/-- A call that is laid by. -/
theorem execDfr_sound (_ : Good X A) {ops : Array Oper} {o : Oper} {c : Call} (hop : o.op = .defer c) (hwf : wf σ = true) (hs : Sat X σ env β a w) {K : St → T} {K' : Act → World → Prop} {Q : Exit → Act → World → Prop}
    (hden : (execDfr σ o c K).den X env σ.ne β σ.blocks.length ls) (hK : Cont' X σ env β ls K K') :
    if Region.wanted o (yielded ops a.tmps) then o.wp X.P a w K' Q else K' (a.put o.dst undef) w := by
  unfold execDfr at hden
  split at hden
  · rename_i f hgd hcl
    split at hden
    · rename_i x l hx hl
      split at hden
      · rename_i hok
        have hw : Region.wanted o (yielded ops a.tmps) = true := by simp [Region.wanted, hgd]
        rw [if_pos hw]
        simp only [T.den] at hden
        obtain ⟨⟨d, hd, hno⟩, hk⟩ := hden
        have ev : ∀ {y : Operand} {s : SV}, evalO σ [] y = some s → a.eval y = s.den env β := fun h => evalO_sound hs (conds_nil _ _) h
        have hargs : c.args.map a.eval = (l.map (·.den env β)).toArray := by
          apply Array.ext'
          rw [Array.toList_map]
          exact mapM_map hl fun x _ y hy => ev hy
        have hrun : (execOp a.eval o).run X.P w = .ok (.defer d) w := by
          have := hd w
          simp only [execOp, hop, resolve, hcl, hargs, ev hx, Sem.run_bind, this, Result.andThen_ok]
          rfl
        unfold Oper.wp
        rw [hrun]
        have h1 := hk (undef, w) trivial
        have hwf1 : wf { σ with ne := σ.ne + 1 } = true := wf_ne hwf _
        have he : ∀ e, e < σ.ne → (upd env σ.ne (undef, w)) e = env e := fun e he => upd_ne _ _ (by omega)
        have hs1 : Sat X { σ with ne := σ.ne + 1 } (upd env σ.ne (undef, w)) β a w := hs.congr hwf he (fun _ _ => rfl) _
        have hs2 : Sat X { σ with ne := σ.ne + 1 } (upd env σ.ne (undef, w)) β { a with defers := d :: a.defers } w := ⟨hs1.mem, fun d' hd' => by
          rcases List.mem_cons.1 hd' with rfl | h
          · exact hno
          · exact hs.defers d' h, hs1.size, hs1.slot⟩
        refine hK (setSlot { σ with ne := σ.ne + 1 } o.dst (.x (.c undef)) []) _ β _ _ (wf_setSlot hwf1 rfl) ⟨by rw [setSlot_blocks, setSlot_gl, setSlot_sy]; exact hs2.mem, by rw [put_defers]; exact hs2.defers, by rw [put_size, setSlot_len]; exact hs2.size,
          FrmOk.put (a := { a with defers := d :: a.defers }) hs2.slot hs2.size o.dst _ [] _ ⟨fun _ => rfl, fun h => absurd (conds_nil _ _) h⟩⟩ (Ext.trans (σ' := { σ with ne := σ.ne + 1 }) ⟨by simp, by simp, he, fun _ _ => rfl⟩ (Ext.setSlot _ _ _ _ _ _)) (by simpa using h1)
      · simp only [T.den] at hden
    · simp only [T.den] at hden
  · simp only [T.den] at hden
theorem execOps_sound (G : Good X A) {ops : Array Oper} {Q : Exit → Act → World → Prop} : ∀ (l : List Oper) {σ : St} {env : Env} {β : Nat → Nat} {a : Act} {w : World} {K : St → T} {K' : Act → World → Prop}, wf σ = true → Sat X σ env β a w →
    (execOps X.P A ops l σ K).den X env σ.ne β σ.blocks.length ls → Cont' X σ env β ls K K' → (∀ a w, K' a w → Q .normal a w) → wpList X.P ops Q l a w
  | [], σ, env, β, a, w, K, K', hwf, hs, hden, hK, hQ => wpList_nil (hQ _ _ (hK σ env β a w hwf hs (Ext.refl _ _ _) hden))
  | o :: l, σ, env, β, a, w, K, K', hwf, hs, hden, hK, hQ => by
    refine wpList_step fun K1 hK1 => ?_
    unfold execOps at hden
    split at hden
    · rename_i c hop
      exact execDfr_sound G hop hwf hs hden (fun σ' env' β' a' w' hwf' hs' hx hd => hK1 _ _ (execOps_sound G l hwf' hs' hd
        (fun σ'' env'' β'' a'' w'' h1 h2 h3 h4 => hK σ'' env'' β'' a'' w'' h1 h2 (hx.trans h3) h4) hQ))
    exact execOp1_sound G (ls := ls) hwf hs hden (fun σ' env' β' a' w' hwf' hs' hx hd => hK1 _ _ (execOps_sound G l hwf' hs' hd
      (fun σ'' env'' β'' a'' w'' h1 h2 h3 h4 => hK σ'' env'' β'' a'' w'' h1 h2 (hx.trans h3) h4) hQ))
end
end Go.Vc
