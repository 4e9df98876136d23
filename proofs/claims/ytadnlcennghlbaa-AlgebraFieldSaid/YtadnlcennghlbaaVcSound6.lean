/-
  The engine is sound, part 6: what is known behind an operation.
-/
import Derived.Test.YtadnlcennghlbaaVcSound5
namespace Go.Vc
open Go Go.RowKit
/-- More is known: more variables, more blocks. -/
structure Ext (σ : St) (env : Env) (β : Nat → Nat) (σ' : St) (env' : Env) (β' : Nat → Nat) : Prop where
  ne : σ.ne ≤ σ'.ne
  nb : σ.blocks.length ≤ σ'.blocks.length
  env : ∀ e, e < σ.ne → env' e = env e
  beta : ∀ b, b < σ.blocks.length → β' b = β b
theorem Ext.refl (σ : St) (env : Env) (β : Nat → Nat) : Ext σ env β σ env β := ⟨Nat.le_refl _, Nat.le_refl _, fun _ _ => rfl, fun _ _ => rfl⟩
theorem Ext.trans {σ σ' σ'' : St} {env env' env'' : Env} {β β' β'' : Nat → Nat} (h : Ext σ env β σ' env' β') (k : Ext σ' env' β' σ'' env'' β'') : Ext σ env β σ'' env'' β'' :=
  ⟨Nat.le_trans h.ne k.ne, Nat.le_trans h.nb k.nb, fun e he => (k.env e (Nat.lt_of_lt_of_le he h.ne)).trans (h.env e he), fun b hb => (k.beta b (Nat.lt_of_lt_of_le hb h.nb)).trans (h.beta b hb)⟩
section
variable {X : Ctx} {σ : St} {env env' : Env} {β β' : Nat → Nat} {a : Act} {w w' : World}
theorem wfB (hwf : wf σ = true) {k : Nat} {b : Blk} (h : σ.blocks[k]? = some (some b)) : (∀ e ∈ contE b.cont, e < σ.ne) ∧ ∀ c ∈ contB b.cont, c < σ.blocks.length := by
  have := (wf_parts hwf).2.1 _ (List.mem_of_getElem? h)
  simp only [okB, okC, Bool.and_eq_true, List.all_eq_true, decide_eq_true_eq] at this
  exact this
theorem wfG (hwf : wf σ = true) {g k : Nat} (h : (g, k) ∈ σ.gl) : k < σ.blocks.length := by
  exact (wf_parts hwf).2.2.1 _ h
theorem Holds.congr {k k' : Nat} {b : Blk} (h : Holds w k b env β) (hk : k' = k) (he : ∀ e ∈ contE b.cont, env e = env' e) (hb : ∀ c ∈ contB b.cont, β c = β' c) : Holds w k' b env' β' := by
  subst hk
  unfold Holds at *
  rw [← Cont.den_congr he hb]
  exact h
/-- Memory as it is known, under other numbers that agree where it matters. -/
theorem Mem.agree {y : Sy} {blocks : List (Option Blk)} {gl : List (Nat × Nat)} (h : Mem X y blocks gl env β w) (hblk : ∀ (k : Nat) (b : Blk), blocks[k]? = some (some b) → (∀ e ∈ contE b.cont, env e = env' e) ∧ (∀ c ∈ contB b.cont, β c = β' c) ∧ β k = β' k)
    (hgl : ∀ p ∈ gl, β p.2 = β' p.2) (hy : env y.s = env' y.s) (how : ∀ k ∈ y.ow, β k = β' k) : Mem X y blocks gl env' β' w where
  blk := fun k b hk => by
    obtain ⟨h1, h2, h3⟩ := h.blk k b hk
    obtain ⟨e1, e2, e3⟩ := hblk k b hk
    exact ⟨h1.congr e3.symm e1 e2, by rw [← Cont.den_congr e1 e2]; exact h2, Cont.ok_congr e1 h3⟩
  inh := fun k b hk => by rw [← (hblk k b hk).2.2]; exact h.inh k b hk
  own := fun k b hk ho => by rw [← (hblk k b hk).2.2]; exact h.own k b hk ho
  apart := fun j k bj bk hjk hj hk ho => by
    rw [← (hblk j bj hj).2.2, ← (hblk k bk hk).2.2]; exact h.apart j k bj bk hjk hj hk ho
  glob := fun g k hg => by rw [← hgl _ hg]; exact h.glob g k hg
  past := fun hl b hb1 hb2 => by
    have hm : y.ow.map β' = y.ow.map β := List.map_congr_left fun k hk => (how k hk).symm
    rw [← hy] at hb1 ⊢
    rw [hm] at hb2
    exact h.past hl b hb1 hb2
  wksz := by rw [← hy]; exact h.wksz
  keep := h.keep
  sz0 := h.sz0
  os := h.os
  tape := h.tape
  output := h.output
/-- The same memory, under more variables and blocks. -/
theorem Mem.congr (h : Mem X σ.sy σ.blocks σ.gl env β w) (hwf : wf σ = true) (he : ∀ e, e < σ.ne → env' e = env e) (hb : ∀ b, b < σ.blocks.length → β' b = β b) :
    Mem X σ.sy σ.blocks σ.gl env' β' w := by
  refine h.agree (fun k b hk => ?_) (fun p hp => (hb _ ((wf_parts hwf).2.2.1 p hp)).symm) (he _ (wf_parts hwf).2.2.2.1).symm (fun k hk => (hb k ((wf_parts hwf).2.2.2.2 k hk)).symm)
  obtain ⟨w1, w2⟩ := wfB hwf hk
  exact ⟨fun e h => (he e (w1 e h)).symm, fun c h => (hb c (w2 c h)).symm, (hb k (List.getElem?_eq_some_iff.1 hk).1).symm⟩
theorem block_lt_of_cell' {w : World} {b i : Nat} {v : Value} (h : w.cell? ⟨b, i, none⟩ = some v) : b < w.heap.size := by
  unfold World.cell? at h
  split at h
  · rename_i hh
    rcases Nat.lt_or_ge b w.heap.size with h' | h'
    · exact h'
    · rw [Array.getElem?_eq_none h'] at hh; cases hh
  · cases h
theorem Holds.below {k : Nat} {b : Blk} (h : Holds w k b env β) (hb : Below w.heap.size w w') : Holds w' k b env β := by
  unfold Holds at *
  split
  · rename_i ho
    simp only [ho, if_true] at h
    rw [hb.block k (by
      rcases Nat.lt_or_ge k w.heap.size with h' | h'
      · exact h'
      · rw [Array.getElem?_eq_none h'] at h; cases h)]
    exact h
  · rename_i ho
    simp only [ho] at h
    intro i v hi
    have hc := h i v hi
    rw [World.cell?_of_block (w := w) (a := ⟨k, i, none⟩) (hb.block k (block_lt_of_cell' hc))]
    exact hc
theorem Mem.below {y : Sy} {blocks : List (Option Blk)} {gl : List (Nat × Nat)} (h : Mem X y blocks gl env β w) (hX : ∀ b, X.w0.heap.size ≤ b → X.mine b) (hb : Below w.heap.size w w') : Mem X y blocks gl env β w' where
  blk := fun k b hk => ⟨(h.blk k b hk).1.below hb, (h.blk k b hk).2⟩
  inh := fun k b hk => Nat.lt_of_lt_of_le (h.inh k b hk) hb.size
  own := h.own
  apart := h.apart
  glob := h.glob
  past := fun hl b hb1 hb2 => (hb.block b (Nat.lt_of_lt_of_le hb1 h.wksz)).trans (h.past hl b hb1 hb2)
  wksz := Nat.le_trans h.wksz hb.size
  keep := fun b hm => by
    have hlt : b < X.w0.heap.size := by
      rcases Nat.lt_or_ge b X.w0.heap.size with h' | h'
      · exact h'
      · exact absurd (hX b h') hm
    exact (hb.block b (Nat.lt_of_lt_of_le hlt h.sz0)).trans (h.keep b hm)
  sz0 := Nat.le_trans h.sz0 hb.size
  os := hb.os.trans h.os
  tape := hb.tape.trans h.tape
  output := hb.output.trans h.output
theorem Holds.keep {k : Nat} {b : Blk} (h : Holds w k b env β) (_ : k < w.heap.size) (hb : w'.heap[k]? = w.heap[k]?) : Holds w' k b env β := holds_of_block h hb
/-- Behind an effect: its world is the one that memory is like. -/
theorem Mem.eff {y : Sy} {blocks : List (Option Blk)} {gl : List (Nat × Nat)} (h : Mem X y blocks gl env β w) (hX : ∀ b, X.w0.heap.size ≤ b → X.mine b) {md : Bool} {tr : List Nat} (hk : Keeps X md tr w w')
    (htr : md = true → ∀ (k : Nat) (b : Blk), blocks[k]? = some (some b) → β k ∈ tr) {s : Nat} (hs : (env s).2 = w') (lv : Bool) (ow : List Nat) : Mem X ⟨lv, s, ow⟩ blocks gl env β w' where
  blk := fun k b hb => ⟨(h.blk k b hb).1.keep (h.inh k b hb) (hk.block _ (h.inh k b hb) fun hm => .inr (htr hm k b hb)), (h.blk k b hb).2⟩
  inh := fun k b hb => Nat.lt_of_lt_of_le (h.inh k b hb) hk.size
  own := h.own
  apart := h.apart
  glob := h.glob
  past := fun _ b _ _ => by rw [hs]
  wksz := by rw [hs]; exact Nat.le_refl _
  keep := fun b hm => by
    have hlt : b < X.w0.heap.size := by
      rcases Nat.lt_or_ge b X.w0.heap.size with h' | h'
      · exact h'
      · exact absurd (hX b h') hm
    exact (hk.block b (Nat.lt_of_lt_of_le hlt h.sz0) fun _ => .inl hm).trans (h.keep b hm)
  sz0 := Nat.le_trans h.sz0 hk.size
  os := hk.os.trans h.os
  tape := hk.tape.trans h.tape
  output := hk.output.trans h.output
theorem below_alloc (w : World) (o : Obj) : Below w.heap.size w (w.alloc o) := (Below.refl _ _).alloc (Nat.le_refl _) o
theorem below_drew (w : World) : Below w.heap.size w { w with drawn := w.drawn + 1 } := ⟨rfl, rfl, rfl, Nat.le_refl _, fun _ _ => rfl⟩
/-- A block whose place was kept is there. -/
theorem Mem.fill {y : Sy} {blocks : List (Option Blk)} {gl : List (Nat × Nat)} (h : Mem X y blocks gl env β w) (hX : ∀ b, X.w0.heap.size ≤ b → X.mine b) {k : Nat} {b : Blk} (hk : blocks[k]? = some none)
    (hblk : ∀ (j : Nat) (b' : Blk), blocks[j]? = some (some b') → ∀ c ∈ contB b'.cont, c ≠ k) (hgl : ∀ p ∈ gl, p.2 ≠ k) (how : ∀ j ∈ y.ow, j ≠ k)
    (hsz : (b.cont.den env β).size = b.n) (hok : b.cont.ok env) (hown : b.own = true) (hcb : ∀ c ∈ contB b.cont, c ≠ k) :
    Mem X y (blocks.set k (some b)) gl env (upd β k w.heap.size) (w.alloc (.cells (b.cont.den env β) b.ty)) := by
  have hlt : k < blocks.length := (List.getElem?_eq_some_iff.1 hk).1
  have hne : ∀ (j : Nat) (b' : Blk), blocks[j]? = some (some b') → j ≠ k := fun j b' hj he => by subst he; rw [hk] at hj; cases hj
  have hm : Mem X y blocks gl env (upd β k w.heap.size) (w.alloc (.cells (b.cont.den env β) b.ty)) :=
    (h.below hX (below_alloc w _)).agree (fun j b' hj => ⟨fun _ _ => rfl, fun c hc => (upd_ne _ _ (hblk j b' hj c hc)).symm, (upd_ne _ _ (hne j b' hj)).symm⟩) (fun p hp => (upd_ne _ _ (hgl p hp)).symm) rfl (fun j hj => (upd_ne _ _ (how j hj)).symm)
  have hnew : (w.alloc (.cells (b.cont.den env β) b.ty)).heap[w.heap.size]? = some (.cells (b.cont.den env β) b.ty (0, 0)) := Array.getElem?_push_size
  have hget : ∀ (j : Nat) (b' : Blk), (blocks.set k (some b))[j]? = some (some b') → (j ≠ k ∧ blocks[j]? = some (some b')) ∨ (j = k ∧ b' = b) := fun j b' hj => by
    by_cases he : k = j
    · subst he
      rw [List.getElem?_set_self hlt] at hj
      cases hj
      exact .inr ⟨rfl, rfl⟩
    · rw [List.getElem?_set_ne he] at hj
      exact .inl ⟨Ne.symm he, hj⟩
  have hcd : b.cont.den env (upd β k w.heap.size) = b.cont.den env β := Cont.den_congr (fun _ _ => rfl) (fun c hc => upd_ne _ _ (hcb c hc))
  have hold : ∀ (j : Nat) (b' : Blk), blocks[j]? = some (some b') → upd β k w.heap.size j < w.heap.size := fun j b' hj => by
    rw [upd_ne _ _ (hne j b' hj)]; exact h.inh j b' hj
  refine { hm with blk := ?_, inh := ?_, own := ?_, apart := ?_ }
  · intro j b' hj
    rcases hget j b' hj with ⟨_, hj⟩ | ⟨e1, e2⟩
    · exact hm.blk j b' hj
    · subst e1 e2
      rw [hcd, upd_same]
      refine ⟨?_, hsz, hok⟩
      simp only [Holds, hown, if_true]
      rw [hcd]; exact hnew
  · intro j b' hj
    rcases hget j b' hj with ⟨_, hj⟩ | ⟨e1, e2⟩
    · exact hm.inh j b' hj
    · subst e1; rw [upd_same]; simp
  · intro j b' hj ho
    rcases hget j b' hj with ⟨_, hj⟩ | ⟨e1, e2⟩
    · exact hm.own j b' hj ho
    · subst e1; rw [upd_same]; exact hX _ h.sz0
  · intro i j bi bj hij hi hj ho
    rcases hget i bi hi with ⟨_, hi⟩ | ⟨e1, e2⟩
    · rcases hget j bj hj with ⟨_, hj⟩ | ⟨e3, e4⟩
      · exact hm.apart i j bi bj hij hi hj ho
      · have := hold i bi hi
        subst e3
        rw [upd_same]
        omega
    · rcases hget j bj hj with ⟨_, hj⟩ | ⟨e3, e4⟩
      · have := hold j bj hj
        subst e1
        rw [upd_same]
        omega
      · exact absurd (e1.trans e3.symm) hij
/-- One block more. -/
theorem Mem.push (h : Mem X σ.sy σ.blocks σ.gl env β w) (hwf : wf σ = true) (hX : ∀ b, X.w0.heap.size ≤ b → X.mine b) {b : Blk} (hsz : (b.cont.den env β).size = b.n) (hok : b.cont.ok env) (hown : b.own = true)
    (hE : ∀ c ∈ contB b.cont, c < σ.blocks.length) :
    Mem X σ.sy (σ.blocks ++ [some b]) σ.gl env (upd β σ.blocks.length w.heap.size) (w.alloc (.cells (b.cont.den env β) b.ty)) := by
  have h1 : Mem X σ.sy (σ.blocks ++ [none]) σ.gl env β w := { h with
    blk := fun k b hk => h.blk k b (by
      rw [List.getElem?_append] at hk
      split at hk
      · exact hk
      · rcases Nat.eq_zero_or_pos (k - σ.blocks.length) with h' | h'
        · rw [h'] at hk; simp at hk
        · rw [List.getElem?_eq_none (by simp; omega)] at hk; cases hk)
    inh := fun k b hk => h.inh k b (by
      rw [List.getElem?_append] at hk
      split at hk
      · exact hk
      · rcases Nat.eq_zero_or_pos (k - σ.blocks.length) with h' | h'
        · rw [h'] at hk; simp at hk
        · rw [List.getElem?_eq_none (by simp; omega)] at hk; cases hk)
    own := fun k b hk => h.own k b (by
      rw [List.getElem?_append] at hk
      split at hk
      · exact hk
      · rcases Nat.eq_zero_or_pos (k - σ.blocks.length) with h' | h'
        · rw [h'] at hk; simp at hk
        · rw [List.getElem?_eq_none (by simp; omega)] at hk; cases hk)
    apart := fun j k bj bk hjk hj hk => h.apart j k bj bk hjk (by
      rw [List.getElem?_append] at hj
      split at hj
      · exact hj
      · rcases Nat.eq_zero_or_pos (j - σ.blocks.length) with h' | h'
        · rw [h'] at hj; simp at hj
        · rw [List.getElem?_eq_none (by simp; omega)] at hj; cases hj) (by
      rw [List.getElem?_append] at hk
      split at hk
      · exact hk
      · rcases Nat.eq_zero_or_pos (k - σ.blocks.length) with h' | h'
        · rw [h'] at hk; simp at hk
        · rw [List.getElem?_eq_none (by simp; omega)] at hk; cases hk) }
  have h2 := h1.fill hX (k := σ.blocks.length) (b := b) (by simp) (fun j b' hj c hc => ?_) (fun p hp => by have := (wf_parts hwf).2.2.1 p hp; omega) (fun j hj => by have := (wf_parts hwf).2.2.2.2 j hj; omega) hsz hok hown (fun c hc => by have := hE c hc; omega)
  · have e : (σ.blocks ++ [none]).set σ.blocks.length (some b) = σ.blocks ++ [some b] := by simp
    rw [e] at h2
    exact h2
  · rw [List.getElem?_append] at hj
    split at hj
    · have := (wfB hwf hj).2 c hc; omega
    · rcases Nat.eq_zero_or_pos (j - σ.blocks.length) with h' | h'
      · rw [h'] at hj; simp at hj
      · rw [List.getElem?_eq_none (by simp; omega)] at hj; cases hj
/-- One block overwritten. -/
theorem Mem.set {y : Sy} {blocks : List (Option Blk)} {gl : List (Nat × Nat)} (h : Mem X y blocks gl env β w) {k : Nat} {b b0 : Blk} (hk : blocks[k]? = some (some b0)) (ho0 : b0.own = true) (ho : b.own = true)
    (hsz : (b.cont.den env β).size = b.n) (hok : b.cont.ok env) (hset : SetBlk w w' (β k) (.cells (b.cont.den env β) b.ty (0, 0))) :
    Mem X ⟨y.live, y.s, k :: y.ow⟩ (blocks.set k (some b)) gl env β w' := by
  have hlt : k < blocks.length := (List.getElem?_eq_some_iff.1 hk).1
  have hget : ∀ (j : Nat) (b' : Blk), (blocks.set k (some b))[j]? = some (some b') → (j ≠ k ∧ blocks[j]? = some (some b')) ∨ (j = k ∧ b' = b) := fun j b' hj => by
    by_cases he : k = j
    · subst he
      rw [List.getElem?_set_self hlt] at hj
      cases hj
      exact .inr ⟨rfl, rfl⟩
    · rw [List.getElem?_set_ne he] at hj
      exact .inl ⟨Ne.symm he, hj⟩
  have hown := h.own k b0 hk ho0
  refine { blk := ?_, inh := ?_, own := ?_, apart := ?_, glob := h.glob, past := ?_, wksz := ?_, keep := ?_, sz0 := ?_, os := ?_, tape := ?_, output := ?_ }
  · intro j b' hj
    rcases hget j b' hj with ⟨hne, hj⟩ | ⟨rfl, rfl⟩
    · obtain ⟨h1, h2⟩ := h.blk j b' hj
      refine ⟨holds_of_block h1 (hset.other _ ?_), h2⟩
      exact fun he => h.apart k j b0 b' (Ne.symm hne) hk hj ho0 he.symm
    · refine ⟨?_, hsz, hok⟩
      simp only [Holds, ho, if_true]
      exact hset.here
  · intro j b' hj
    rw [hset.size]
    rcases hget j b' hj with ⟨hne, hj⟩ | ⟨rfl, rfl⟩
    · exact h.inh j b' hj
    · exact h.inh _ b0 hk
  · intro j b' hj ho'
    rcases hget j b' hj with ⟨hne, hj⟩ | ⟨rfl, rfl⟩
    · exact h.own j b' hj ho'
    · exact hown
  · intro i j bi bj hij hi hj hoi
    rcases hget i bi hi with ⟨hne, hi'⟩ | ⟨e1, e2⟩
    · rcases hget j bj hj with ⟨hne', hj'⟩ | ⟨e3, e4⟩
      · exact h.apart i j bi bj hij hi' hj' hoi
      · rw [e3]; exact h.apart i k bi b0 hne hi' hk hoi
    · rcases hget j bj hj with ⟨hne', hj'⟩ | ⟨e3, e4⟩
      · rw [e1]; exact h.apart k j b0 bj (Ne.symm hne') hk hj' ho0
      · exact absurd (e1.trans e3.symm) hij
  · intro hl c hc1 hc2
    simp only [List.map_cons, List.mem_cons, not_or] at hc2
    rw [hset.other c hc2.1, h.past hl c hc1 hc2.2]
  · rw [hset.size]; exact h.wksz
  · intro c hc
    rw [hset.other c (fun he => hc (he ▸ hown)), h.keep c hc]
  · rw [hset.size]; exact h.sz0
  · rw [hset.os]; exact h.os
  · rw [hset.tape]; exact h.tape
  · rw [hset.output]; exact h.output
/-! the frame -/
theorem put_size (a : Act) (d : Option Nat) (v : Value) : (a.put d v).tmps.size = a.tmps.size := by cases d <;> simp [Act.put]
theorem put_defers (a : Act) (d : Option Nat) (v : Value) : (a.put d v).defers = a.defers := by cases d <;> rfl
theorem put_get (a : Act) (d : Nat) (v : Value) (t : Nat) : (a.put (some d) v).tmps[t]? = if d = t then (if t < a.tmps.size then some v else none) else a.tmps[t]? := by
  simp only [Act.put, Array.getElem?_setIfInBounds]
  split
  · rename_i h; subst h; rfl
  · rfl
def FrmOk (env : Env) (β : Nat → Nat) (slots : List Slot) (a : Act) : Prop :=
  ∀ (t : Nat) (sl : Slot), slots[t]? = some sl → okSV sl.s = true →
    (conds env β sl.g → a.tmps[t]? = some (sl.s.den env β)) ∧ (¬ conds env β sl.g → a.tmps[t]? = some undef)
theorem FrmOk.congr (h : FrmOk env β σ.slots a) (hwf : wf σ = true) (he : ∀ e, e < σ.ne → env' e = env e) (hb : ∀ b, b < σ.blocks.length → β' b = β b) : FrmOk env' β' σ.slots a := by
  intro t sl hsl hok
  obtain ⟨w1, w2, w3, w4⟩ := wfE hwf hsl
  obtain ⟨h1, h2⟩ := h t sl hsl hok
  have hc : conds env β sl.g ↔ conds env' β' sl.g := conds_congr (fun e h => (he e (w3 e h)).symm) (fun b h => (hb b (w4 b h)).symm)
  rw [SV.den_congr (fun e h => (he e (w1 e h)).symm) (fun b h => (hb b (w2 b h)).symm), hc] at h1
  rw [hc] at h2
  exact ⟨h1, h2⟩
/-- A slot filled. -/
theorem FrmOk.put (h : FrmOk env β σ.slots a) (hsize : a.tmps.size = σ.slots.length) (dst : Option Nat) (s : SV) (g : List (At × Bool)) (v : Value) (hv : (conds env β g → v = s.den env β) ∧ (¬ conds env β g → v = undef)) :
    FrmOk env β (setSlot σ dst s g).slots (a.put dst v) := by
  cases dst with
  | none => exact h
  | some d =>
    intro t sl hsl hok
    simp only [setSlot] at hsl
    rw [put_get]
    by_cases hd : d = t
    · subst hd
      have hlt : d < σ.slots.length := by
        have := (List.getElem?_eq_some_iff.1 hsl).1
        simpa using this
      rw [List.getElem?_set_self hlt] at hsl
      cases hsl
      rw [if_pos rfl, if_pos (by rw [hsize]; exact hlt)]
      exact ⟨fun hc => by rw [hv.1 hc], fun hc => by rw [hv.2 hc]⟩
    · rw [List.getElem?_set_ne hd] at hsl
      rw [if_neg hd]
      exact h t sl hsl hok
end
end Go.Vc
