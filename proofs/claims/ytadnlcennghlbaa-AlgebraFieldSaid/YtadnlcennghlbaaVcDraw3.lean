/-
  The engine is sound, part 8c: what holds when some of the operations are done.
-/
import Derived.Test.YtadnlcennghlbaaVcDraw2
namespace Go.Vc
open Go Go.RowKit
def addD (D : Nat → Bool) (i : Nat) : Nat → Bool := fun j => D j || decide (j = i)
theorem addD_self (D : Nat → Bool) (i : Nat) : addD D i i = true := by simp [addD]
theorem addD_of {D : Nat → Bool} {i j : Nat} (h : D j = true) : addD D i j = true := by simp [addD, h]
theorem addD_ne {D : Nat → Bool} {i j : Nat} (h : j ≠ i) : addD D i j = D j := by simp [addD, h]
theorem addD_or {D : Nat → Bool} {i j : Nat} (h : addD D i j = true) : D j = true ∨ j = i := by simpa [addD] using h
theorem minB_keep {D : Nat → Bool} {k : Nat} {x : Option Blk} : ∀ (rs : List HR) (i : Nat) (s : List (Option Blk)), (∀ j r k' b, rs[j]? = some r → D (i + j) = true → k' = k → r.eff ≠ .set k' b) → s[k]? = some x → (minB D i rs s)[k]? = some x
  | [], i, s, _, h => h
  | r :: rs, i, s, hn, h => by
    have hrest : ∀ (j : Nat) (r' : HR) (k' : Nat) (b : Blk), rs[j]? = some r' → D (i + 1 + j) = true → k' = k → r'.eff ≠ .set k' b := fun j r' k' b hj hd hkk =>
      hn (j + 1) r' k' b (by simpa using hj) (by rw [show i + (j + 1) = i + 1 + j from by omega]; exact hd) hkk
    simp only [minB]
    refine minB_keep rs (i + 1) _ hrest ?_
    cases he : r.eff with
    | none => exact h
    | eff => exact h
    | new b => simp only; rw [List.getElem?_append_left (List.getElem?_eq_some_iff.1 h).1]; exact h
    | set k' b =>
      simp only
      split
      · rename_i hd
        by_cases hkk : k' = k
        · exact absurd he (hn 0 r k' b rfl (by simpa using hd) hkk)
        · rw [List.getElem?_set_ne hkk]; exact h
      · exact h
theorem minB_same {D D' : Nat → Bool} : ∀ (rs : List HR) (i : Nat) (s : List (Option Blk)), (∀ j r, rs[j]? = some r → (isNew r = true ∨ ∃ k b, r.eff = .set k b) → D (i + j) = D' (i + j)) → minB D i rs s = minB D' i rs s
  | [], i, s, _ => rfl
  | r :: rs, i, s, h => by
    simp only [minB]
    have h0 := h 0 r rfl
    rw [Nat.add_zero] at h0
    have hrest := minB_same (D := D) (D' := D') rs (i + 1)
    have hr : ∀ (j : Nat) (r' : HR), rs[j]? = some r' → (isNew r' = true ∨ ∃ k b, r'.eff = .set k b) → D (i + 1 + j) = D' (i + 1 + j) := fun j r' hj hh => by
      have := h (j + 1) r' (by simpa using hj) hh
      rw [show i + (j + 1) = i + 1 + j from by omega] at this
      exact this
    cases he : r.eff with
    | none => exact hrest _ hr
    | eff => exact hrest _ hr
    | new b => simp only; rw [h0 (.inl (by simp [isNew, he]))]; exact hrest _ hr
    | set k b => simp only; rw [h0 (.inr ⟨k, b, he⟩)]; exact hrest _ hr
section
variable {X : Ctx} {env env' : Env} {β β' : Nat → Nat} {w : World} {blocks : List (Option Blk)} {gl : List (Nat × Nat)}
/-- Less of memory. -/
theorem Mem.sub {y y' : Sy} {blocks' : List (Option Blk)} (h : Mem X y blocks gl env β w) (hsub : ∀ (k : Nat) (b : Blk), blocks'[k]? = some (some b) → blocks[k]? = some (some b))
    (hy : y'.live = true → y.live = true ∧ y'.s = y.s ∧ y'.ow = y.ow) (hsz : (env y'.s).2.heap.size ≤ w.heap.size) : Mem X y' blocks' gl env β w where
  blk := fun k b hk => h.blk k b (hsub k b hk)
  inh := fun k b hk => h.inh k b (hsub k b hk)
  own := fun k b hk => h.own k b (hsub k b hk)
  apart := fun j k bj bk hjk hj hk => h.apart j k bj bk hjk (hsub j bj hj) (hsub k bk hk)
  glob := h.glob
  past := fun hl => by
    obtain ⟨h1, h2, h3⟩ := hy hl
    rw [h2, h3]
    exact h.past h1
  wksz := hsz
  keep := h.keep
  sz0 := h.sz0
  os := h.os
  tape := h.tape
  output := h.output
theorem FrmOk.agree {slots : List Slot} {a : Act} (h : FrmOk env β slots a) (hs : ∀ (t : Nat) (sl : Slot), slots[t]? = some sl → (∀ e ∈ svE sl.s, env e = env' e) ∧ (∀ b ∈ svB sl.s, β b = β' b) ∧ (∀ e ∈ gE sl.g, env e = env' e) ∧ ∀ b ∈ gB sl.g, β b = β' b) :
    FrmOk env' β' slots a := by
  intro t sl hsl hok
  obtain ⟨w1, w2, w3, w4⟩ := hs t sl hsl
  obtain ⟨h1, h2⟩ := h t sl hsl hok
  have hc : conds env β sl.g ↔ conds env' β' sl.g := conds_congr w3 w4
  rw [SV.den_congr w1 w2, hc] at h1
  rw [hc] at h2
  exact ⟨h1, h2⟩
end
section
variable {X : Ctx} {env : Env} {β : Nat → Nat} {w : World} {blocks : List (Option Blk)} {gl : List (Nat × Nat)}
theorem Mem.sub' {y y' : Sy} {blocks' : List (Option Blk)} (h : Mem X y blocks gl env β w) (hsub : ∀ (k : Nat) (b : Blk), blocks'[k]? = some (some b) → blocks[k]? = some (some b))
    (hy : y'.live = true → ∀ b, b < (env y'.s).2.heap.size → b ∉ y'.ow.map β → w.heap[b]? = (env y'.s).2.heap[b]?) (hsz : (env y'.s).2.heap.size ≤ w.heap.size) : Mem X y' blocks' gl env β w where
  blk := fun k b hk => h.blk k b (hsub k b hk)
  inh := fun k b hk => h.inh k b (hsub k b hk)
  own := fun k b hk => h.own k b (hsub k b hk)
  apart := fun j k bj bk hjk hj hk => h.apart j k bj bk hjk (hsub j bj hj) (hsub k bk hk)
  glob := h.glob
  past := hy
  wksz := hsz
  keep := h.keep
  sz0 := h.sz0
  os := h.os
  tape := h.tape
  output := h.output
end
/-- What is known of the region. -/
structure Reg (X : Ctx) (A : Ann) (ops : Array Oper) (bf : List Nat) (σ : St) (env0 : Env) (β0 : Nat → Nat) (out : List HR) : Prop where
  F : Facts X A ops bf σ out
  wf : wf σ = true
  dist : ∀ (i j : Nat) (o o' : Oper) (t : Nat), ops.toList[i]? = some o → ops.toList[j]? = some o' → o.dst = some t → o'.dst = some t → i = j
  lt : ∀ i, bf.getD i 0 < 2 ^ i
  mem : ∀ (i j : Nat) (o o' : Oper), ops.toList[i]? = some o → ops.toList[j]? = some o' → isMem A o = true → isMem A o' = true → (isStore o = true ∨ isStore o' = true ∨ (isEff A o = true ∧ isEff A o' = true)) → j < i → isLd A o' = false → (bf.getD i 0).testBit j = true
  ld : ∀ (i j : Nat) (o : Oper) (r : HR) (k : Nat) (b : Blk), ops.toList[j]? = some o → isLd A o = true → out[i]? = some r → r.eff = .set k b → j < i → (bf.getD i 0).testBit j = true ∨ σ.blocks.length + cntNew (out.take j) ≤ k
  pre : ∀ (env : Env) (β : Nat → Nat), (∀ e, e < σ.ne → env0 e = env e) → (∀ k, k < σ.blocks.length → β0 k = β k) → ∀ (j : Nat) (r : HR), out[j]? = some r →
    (∀ (j' : Nat) (r' : HR), j' < j → out[j']? = some r' → Okk X σ out env β j' r') → PreChain X β r.nds env r.ne
def Closed (bf : List Nat) (D : Nat → Bool) : Prop := ∀ i j, D i = true → (bf.getD i 0).testBit j = true → D j = true
section
variable {X : Ctx} {A : Ann} {ops : Array Oper} {bf : List Nat} {σ : St} {env0 : Env} {β0 : Nat → Nat} {out : List HR} {D : Nat → Bool} {i : Nat}
abbrev nbOf (σ : St) (out : List HR) (i : Nat) : Nat := σ.blocks.length + cntNew (out.take i)
theorem SupE.of (hC : ∀ j, (bf.getD i 0).testBit j = true → D j = true) {e : Nat} (h : SupE σ.ne (out.take i) (bf.getD i 0).testBit e) : SupE σ.ne out D e := by
  rcases h.take with h | ⟨j, r, _, h2, h3, h4⟩
  · exact .inl h
  · exact .inr ⟨j, r, h2, hC j h3, h4⟩
theorem SupB.of (hC : ∀ j, (bf.getD i 0).testBit j = true → D j = true) {k : Nat} (h : SupB σ.blocks.length (out.take i) (bf.getD i 0).testBit k) : SupB σ.blocks.length out D k := by
  rcases h.take with h | ⟨j, r, _, h2, h3, h4, h5⟩
  · exact .inl h
  · exact .inr ⟨j, r, h2, hC j h3, h4, h5⟩
theorem SupE.off (F : Facts X A ops bf σ out) {i : Nat} {r : HR} (hi : out[i]? = some r) (hD : D i = false) {e : Nat} (h : SupE σ.ne out D e) : ¬ (r.ne ≤ e ∧ e < r.ne + r.nds.length) := by
  rintro ⟨h1, h2⟩
  rcases h with h | ⟨j, s, hj, hd, h3, h4⟩
  · have := F.ne_ge hi; omega
  · rcases Nat.lt_trichotomy i j with hij | hij | hij
    · have := F.ne_le hi hj hij; omega
    · subst hij; rw [hD] at hd; cases hd
    · have := F.ne_le hj hi hij; omega
theorem SupB.off {i : Nat} {r : HR} (hi : out[i]? = some r) (hn : isNew r = true) (hD : D i = false) {k : Nat} (h : SupB σ.blocks.length out D k) : k ≠ nbOf σ out i := by
  intro he
  rcases h with h | ⟨j, s, hj, hd, h3, h4⟩
  · unfold nbOf at he; omega
  · unfold nbOf at he
    rcases Nat.lt_trichotomy i j with hij | hij | hij
    · have := cntNew_lt hi hn hij; omega
    · subst hij; rw [hD] at hd; cases hd
    · have := cntNew_lt hj h3 hij; omega
theorem slot_sup (R : Reg X A ops bf σ env0 β0 out) (hC : Closed bf D) {t : Nat} {sl : Slot} (h : (minS D 0 out σ.slots)[t]? = some sl) :
    (∀ e ∈ svE sl.s, SupE σ.ne out D e) ∧ (∀ b ∈ svB sl.s, SupB σ.blocks.length out D b) ∧ (∀ e ∈ gE sl.g, SupE σ.ne out D e) ∧ ∀ b ∈ gB sl.g, SupB σ.blocks.length out D b := by
  have hlt : t < σ.slots.length := by
    have := (List.getElem?_eq_some_iff.1 h).1
    rwa [minS_len] at this
  by_cases hx : ∃ j r, out[j]? = some r ∧ D j = true ∧ r.dst = some t
  · obtain ⟨j, r, hj, hd, hdst⟩ := hx
    obtain ⟨o, ho, f⟩ := R.F.get hj
    rw [minS_hit out 0 σ.slots hj (by simpa using hd) hdst hlt (fun j' r' hj' hne hdst' => by
      obtain ⟨o', ho', f'⟩ := R.F.get hj'
      exact hne (R.dist j' j o' o t ho' ho (by rw [← f'.dst]; exact hdst') (by rw [← f.dst]; exact hdst)))] at h
    cases h
    have hcl := fun q hq => hC j q hd hq
    refine ⟨fun e he => ?_, fun b hb => ?_, fun e he => (f.gE e he).of hcl, fun b hb => (f.gB b hb).of hcl⟩
    · rcases f.sE e he with h | h
      · exact h.of hcl
      · exact .inr ⟨j, r, hj, hd, h⟩
    · rcases f.sB b hb with h | h
      · exact h.of hcl
      · exact .inr ⟨j, r, hj, hd, h⟩
  · rw [minS_miss out 0 σ.slots (fun j r hj hd hdst => hx ⟨j, r, hj, by simpa using hd, hdst⟩)] at h
    obtain ⟨w1, w2, w3, w4⟩ := wfE R.wf h
    exact ⟨fun e he => .inl (w1 e he), fun e he => .inl (w2 e he), fun e he => .inl (w3 e he), fun e he => .inl (w4 e he)⟩
theorem blk_sup (R : Reg X A ops bf σ env0 β0 out) (hC : Closed bf D) {k : Nat} {b : Blk} (h : (minB D 0 out σ.blocks)[k]? = some (some b)) :
    (∀ e ∈ contE b.cont, SupE σ.ne out D e) ∧ (∀ c ∈ contB b.cont, SupB σ.blocks.length out D c) ∧ SupB σ.blocks.length out D k := by
  rcases minB_mem out 0 _ h with h | ⟨j, r, hj, hd, hr⟩
  · obtain ⟨w1, w2⟩ := wfB R.wf h
    exact ⟨fun e he => .inl (w1 e he), fun e he => .inl (w2 e he), .inl (List.getElem?_eq_some_iff.1 h).1⟩
  · simp only [Nat.zero_add] at hd
    obtain ⟨o, ho, f⟩ := R.F.get hj
    have hcl := fun q hq => hC j q hd hq
    have hkind : r.eff = .new b ∨ ∃ k, r.eff = .set k b := by
      rcases hr with h | h
      · exact .inl h.1
      · exact .inr ⟨k, h⟩
    refine ⟨fun e he => ?_, fun c hc => (f.cB b hkind c hc).of hcl, ?_⟩
    · rcases f.cE b hkind e he with h | h
      · exact h.of hcl
      · exact .inr ⟨j, r, hj, hd, h⟩
    · rcases hr with ⟨h1, h2⟩ | h
      · exact .inr ⟨j, r, hj, hd, by simp [isNew, h1], h2⟩
      · exact (f.kB k b h).of hcl
/-- What holds when the operations of D are done. -/
structure Inv (X : Ctx) (A : Ann) (ops : Array Oper) (bf : List Nat) (σ : St) (env0 : Env) (β0 : Nat → Nat) (out : List HR) (D : Nat → Bool) (env : Env) (β : Nat → Nat) (a : Act) (w : World) : Prop where
  closed : Closed bf D
  baseE : ∀ e, e < σ.ne → env0 e = env e
  baseB : ∀ k, k < σ.blocks.length → β0 k = β k
  ok : ∀ j r, D j = true → out[j]? = some r → Okk X σ out env β j r
  mem : Mem X (minY D 0 out σ.sy) (minB D 0 out σ.blocks) σ.gl env β w
  sz0 : (env σ.sy.s).2.heap.size ≤ w.heap.size
  past0 : σ.sy.live = true → (∀ (j : Nat) (o : Oper) (r : HR), D j = true → ops.toList[j]? = some o → out[j]? = some r → hard r = true → isEff A o = true ∧ isMd A o = false) →
    ∀ b, b < (env σ.sy.s).2.heap.size → b ∉ σ.sy.ow.map β → w.heap[b]? = (env σ.sy.s).2.heap[b]?
  szs : ∀ j r, D j = true → out[j]? = some r → r.eff = .eff → (env r.ne).2.heap.size ≤ w.heap.size
  defers : ∀ d ∈ a.defers, NoOp X.P d
  size : a.tmps.size = σ.slots.length
  frm : FrmOk env β (minS D 0 out σ.slots) a
theorem split_at {i : Nat} {r : HR} (hi : out[i]? = some r) : out = out.take i ++ r :: out.drop (i + 1) ∧ (out.take i).length = i := by
  have h := hi
  rw [List.getElem?_eq_some_iff] at h
  obtain ⟨hl, hg⟩ := h
  refine ⟨?_, by simp; omega⟩
  rw [← hg, ← List.drop_eq_getElem_cons hl, List.take_append_drop]
theorem minS_add (R : Reg X A ops bf σ env0 β0 out) {i : Nat} {r : HR} (hi : out[i]? = some r) : minS (addD D i) 0 out σ.slots = match r.dst with | some t => (minS D 0 out σ.slots).set t r.slot | none => minS D 0 out σ.slots := by
  obtain ⟨o, ho, f⟩ := R.F.get hi
  have huniq : ∀ (j : Nat) (r0 : HR) (t : Nat), out[j]? = some r0 → r0.dst = some t → ∀ j' r', out[j']? = some r' → j' ≠ j → r'.dst ≠ some t := fun j r0 t hj hdst j' r' hj' hne hdst' => by
    obtain ⟨o1, ho1, f1⟩ := R.F.get hj
    obtain ⟨o2, ho2, f2⟩ := R.F.get hj'
    exact hne (R.dist j' j o2 o1 t ho2 ho1 (by rw [← f2.dst]; exact hdst') (by rw [← f1.dst]; exact hdst))
  have hother : ∀ t', r.dst ≠ some t' → (minS (addD D i) 0 out σ.slots)[t']? = (minS D 0 out σ.slots)[t']? := fun t' hne => by
    by_cases hlt : t' < σ.slots.length
    · by_cases hx : ∃ j r, out[j]? = some r ∧ D j = true ∧ r.dst = some t'
      · obtain ⟨j, r', hj, hd, hdst⟩ := hx
        rw [minS_hit (D := addD D i) out 0 σ.slots hj (by simpa using addD_of hd) hdst hlt (huniq j r' t' hj hdst), minS_hit (D := D) out 0 σ.slots hj (by simpa using hd) hdst hlt (huniq j r' t' hj hdst)]
      · rw [minS_miss (D := D) out 0 σ.slots (fun j r hj hd hdst => hx ⟨j, r, hj, by simpa using hd, hdst⟩), minS_miss (D := addD D i) out 0 σ.slots (fun j r' hj hd hdst => by
          simp only [Nat.zero_add] at hd
          rcases addD_or hd with h | h
          · exact hx ⟨j, r', hj, h, hdst⟩
          · subst h; rw [hi] at hj; cases hj; exact hne hdst)]
    · rw [List.getElem?_eq_none (by rw [minS_len]; omega), List.getElem?_eq_none (by rw [minS_len]; omega)]
  apply List.ext_getElem?
  intro t'
  cases hdst : r.dst with
  | none => exact hother t' (by rw [hdst]; simp)
  | some t =>
    simp only
    by_cases htt : t = t'
    · subst htt
      by_cases hlt : t < σ.slots.length
      · rw [List.getElem?_set_self (by rw [minS_len]; exact hlt)]
        exact minS_hit out 0 σ.slots hi (by simpa using addD_self D i) hdst hlt (huniq i r t hi hdst)
      · rw [List.getElem?_eq_none (by rw [minS_len]; omega), List.getElem?_eq_none (by rw [List.length_set, minS_len]; omega)]
    · rw [List.getElem?_set_ne htt]
      exact hother t' (by rw [hdst]; simpa using htt)
theorem minB_add_none {i : Nat} {r : HR} (hi : out[i]? = some r) (he : r.eff = .none ∨ r.eff = .eff) : minB (addD D i) 0 out σ.blocks = minB D 0 out σ.blocks := by
  obtain ⟨h1, h2⟩ := split_at hi
  rw [h1, minB_append, minB_append, h2]
  rcases he with he | he <;> simp only [minB, he]
  all_goals
    rw [minB_congr (D := addD D i) (D' := D) (out.take i) 0 _ (fun j _ hj => addD_ne (by omega)), minB_congr (D := addD D i) (D' := D) _ (0 + i + 1) _ (fun j hj _ => addD_ne (by omega))]
theorem minB_add_new (hD : D i = false) {r : HR} (hi : out[i]? = some r) {b : Blk} (he : r.eff = .new b) (hlater : ∀ j r' k' b', out[j]? = some r' → D j = true → r'.eff = .set k' b' → k' ≠ nbOf σ out i) :
    minB (addD D i) 0 out σ.blocks = (minB D 0 out σ.blocks).set (nbOf σ out i) (some b) ∧ (minB D 0 out σ.blocks)[nbOf σ out i]? = some none := by
  obtain ⟨h1, h2⟩ := split_at hi
  have hdr : ∀ (j : Nat) (r' : HR), (out.drop (i + 1))[j]? = some r' → out[i + 1 + j]? = some r' := fun j r' h => by rw [List.getElem?_drop] at h; exact h
  have hl : (minB D 0 (out.take i) σ.blocks).length = nbOf σ out i := minB_len _ _ _ _
  have hnone : (minB D 0 (out.take i) σ.blocks ++ [none])[nbOf σ out i]? = some none := by rw [← hl]; simp
  have hlat : ∀ (j : Nat) (r' : HR) (k' : Nat) (b' : Blk), (out.drop (i + 1))[j]? = some r' → D (0 + i + 1 + j) = true → r'.eff = .set k' b' → k' ≠ nbOf σ out i := fun j r' k' b' hj hd he' =>
    hlater (i + 1 + j) r' k' b' (hdr j r' hj) (by rw [show 0 + i + 1 + j = i + 1 + j from by omega] at hd; exact hd) he'
  have eD : minB D 0 out σ.blocks = minB D (0 + i + 1) (out.drop (i + 1)) (minB D 0 (out.take i) σ.blocks ++ [none]) := by
    conv => lhs; rw [h1]
    rw [minB_append, h2]
    simp only [minB, he, Nat.zero_add, hD, Bool.false_eq_true, if_false]
  have eA : minB (addD D i) 0 out σ.blocks = minB D (0 + i + 1) (out.drop (i + 1)) (minB D 0 (out.take i) σ.blocks ++ [some b]) := by
    conv => lhs; rw [h1]
    rw [minB_append, h2]
    simp only [minB, he, Nat.zero_add, addD_self, if_true]
    rw [minB_congr (D := addD D i) (D' := D) (out.take i) 0 _ (fun j _ hj => addD_ne (by omega)), minB_congr (D := addD D i) (D' := D) _ (i + 1) _ (fun j hj _ => addD_ne (by omega))]
  refine ⟨?_, ?_⟩
  · rw [eA, eD, ← minB_set _ _ _ (by simp [hl]) hlat]
    congr 1
    rw [← hl]
    simp
  · rw [eD]
    have hset := minB_set (D := D) (k := nbOf σ out i) (x := none) (out.drop (i + 1)) (0 + i + 1) (minB D 0 (out.take i) σ.blocks ++ [none]) (by simp [hl]) hlat
    have hself : (minB D 0 (out.take i) σ.blocks ++ [none]).set (nbOf σ out i) none = minB D 0 (out.take i) σ.blocks ++ [none] := by
      rw [← hl]; simp
    rw [hself] at hset
    rw [hset, List.getElem?_set_self]
    rw [minB_len]; simp [hl]; omega
theorem minB_add_set (hD : D i = false) {r : HR} (hi : out[i]? = some r) {k : Nat} {b : Blk} (he : r.eff = .set k b) (hk : k < nbOf σ out i) (hlater : ∀ j r' k' b', i < j → out[j]? = some r' → D j = true → r'.eff ≠ .set k' b') :
    minB (addD D i) 0 out σ.blocks = (minB D 0 out σ.blocks).set k (some b) := by
  obtain ⟨h1, h2⟩ := split_at hi
  have hdr : ∀ (j : Nat) (r' : HR), (out.drop (i + 1))[j]? = some r' → out[i + 1 + j]? = some r' := fun j r' h => by rw [List.getElem?_drop] at h; exact h
  have hl : (minB D 0 (out.take i) σ.blocks).length = nbOf σ out i := minB_len _ _ _ _
  have hlat : ∀ (j : Nat) (r' : HR) (k' : Nat) (b' : Blk), (out.drop (i + 1))[j]? = some r' → D (0 + i + 1 + j) = true → r'.eff = .set k' b' → k' ≠ k := fun j r' k' b' hj hd he' =>
    absurd he' (hlater (i + 1 + j) r' k' b' (by omega) (hdr j r' hj) (by rw [show 0 + i + 1 + j = i + 1 + j from by omega] at hd; exact hd))
  have eD : minB D 0 out σ.blocks = minB D (0 + i + 1) (out.drop (i + 1)) (minB D 0 (out.take i) σ.blocks) := by
    conv => lhs; rw [h1]
    rw [minB_append, h2]
    simp only [minB, he, Nat.zero_add, hD, Bool.false_eq_true, if_false]
  have eA : minB (addD D i) 0 out σ.blocks = minB D (0 + i + 1) (out.drop (i + 1)) ((minB D 0 (out.take i) σ.blocks).set k (some b)) := by
    conv => lhs; rw [h1]
    rw [minB_append, h2]
    simp only [minB, he, Nat.zero_add, addD_self, if_true]
    rw [minB_congr (D := addD D i) (D' := D) (out.take i) 0 _ (fun j _ hj => addD_ne (by omega)), minB_congr (D := addD D i) (D' := D) _ (i + 1) _ (fun j hj _ => addD_ne (by omega))]
  rw [eA, eD, ← minB_set _ _ _ (by rw [hl]; exact hk) hlat]
theorem y_sup (R : Reg X A ops bf σ env0 β0 out) (hC : Closed bf D) : SupE σ.ne out D (minY D 0 out σ.sy).s ∧ ∀ k ∈ (minY D 0 out σ.sy).ow, SupB σ.blocks.length out D k := by
  obtain ⟨_, _, _, w4, w5⟩ := wf_parts R.wf
  refine ⟨?_, fun k hk => ?_⟩
  · rcases minY_s (D := D) out 0 σ.sy with h | ⟨j, r, hj, hd, he, h⟩
    · rw [h]; exact .inl w4
    · rw [Nat.zero_add] at hd
      obtain ⟨o, ho, f⟩ := R.F.get hj
      have := (f.isEf he).2
      rw [h]
      exact .inr ⟨j, r, hj, hd, by omega, by omega⟩
  · rcases minY_ow out 0 σ.sy hk with h | ⟨j, r, b, hj, hd, he⟩
    · exact .inl (w5 k h)
    · rw [Nat.zero_add] at hd
      obtain ⟨o, ho, f⟩ := R.F.get hj
      exact (f.kB k b he).of (fun q hq => hC j q hd hq)
/-- The same, one operation later: what does not hang on the kind of its result. -/
theorem Inv.next (R : Reg X A ops bf σ env0 β0 out) {env : Env} {β : Nat → Nat} {a : Act} {w : World} (I : Inv X A ops bf σ env0 β0 out D env β a w) {i : Nat} {r : HR} (hi : out[i]? = some r) (hD : D i = false)
    (hbf : ∀ j, (bf.getD i 0).testBit j = true → D j = true) {vs : List Val} (hvs : Chain X β r.nds env r.ne vs) {β' : Nat → Nat} (hβ : ∀ k, β k ≠ β' k → isNew r = true ∧ k = nbOf σ out i) (hnb : isNew r = true → (env r.s).2.heap.size ≤ β' (nbOf σ out i)) :
    Closed bf (addD D i) ∧ (∀ e, e < σ.ne → env0 e = updl env r.ne vs e) ∧ (∀ k, k < σ.blocks.length → β0 k = β' k) ∧ (∀ j r', addD D i j = true → out[j]? = some r' → Okk X σ out (updl env r.ne vs) β' j r') ∧
    Mem X (minY D 0 out σ.sy) (minB D 0 out σ.blocks) σ.gl (updl env r.ne vs) β w ∧ (∀ k, SupB σ.blocks.length out D k → β k = β' k) ∧ FrmOk (updl env r.ne vs) β' (minS D 0 out σ.slots) a ∧
    (updl env r.ne vs σ.sy.s).2.heap.size ≤ w.heap.size ∧ (∀ j r', D j = true → out[j]? = some r' → r'.eff = .eff → (updl env r.ne vs r'.ne).2.heap.size ≤ w.heap.size) := by
  obtain ⟨o, ho, f⟩ := R.F.get hi
  have hlen := hvs.length
  have hout : ∀ e, ¬ (r.ne ≤ e ∧ e < r.ne + r.nds.length) → env e = updl env r.ne vs e := fun e he => by
    rcases Nat.lt_or_ge e r.ne with h | h
    · rw [updl_lt _ _ _ _ h]
    · rw [updl_ge _ _ _ _ (by omega)]
  have hsupE : ∀ e, SupE σ.ne out D e → env e = updl env r.ne vs e := fun e he => hout e (he.off R.F hi hD)
  have hsupB : ∀ k, SupB σ.blocks.length out D k → β k = β' k := fun k hk => Decidable.byContradiction fun hne => by
    obtain ⟨h1, h2⟩ := hβ k hne
    exact hk.off hi h1 hD h2
  refine ⟨?_, fun e he => (I.baseE e he).trans (hsupE e (.inl he)), fun k hk => (I.baseB k hk).trans (hsupB k (.inl hk)), ?_, ?_, hsupB, ?_, ?_, ?_⟩
  · intro p q hp hq
    rcases addD_or hp with h | h
    · exact addD_of (I.closed p q h hq)
    · subst h; exact addD_of (hbf q hq)
  · intro j r' hj hr'
    by_cases hji : j = i
    · subst hji
      rw [hi] at hr'
      cases hr'
      have h1 : OkAt X (updl env r.ne vs) β' r (nbOf σ out j) := ok_of_chain (f.nds) (fun e he hin => by have := R.F.supE_lt hi he; omega) f.sS hnb
        (Chain.congr (ne := r.ne) (j := 0) (fun b hb => hsupB b (hb.of hbf)) f.nds (fun _ _ => rfl) (fun _ _ _ => rfl) hvs)
      exact h1
    · have hd : D j = true := (addD_or hj).resolve_right hji
      obtain ⟨o', ho', f'⟩ := R.F.get hr'
      have hcl := fun q hq => I.closed j q hd hq
      refine OkAt.congr (fun b hb => hsupB b (hb.of hcl)) f'.nds (fun e he => hsupE e (he.of hcl)) (fun e g1 g2 => hsupE e (.inr ⟨j, r', hr', hd, g1, g2⟩)) f'.sS (fun hn => hsupB _ (.inr ⟨j, r', hr', hd, hn, rfl⟩)) (I.ok j r' hd hr')
  · obtain ⟨y1, y2⟩ := y_sup R I.closed
    refine I.mem.agree (fun k b hk => ?_) (fun _ _ => rfl) (hsupE _ y1) (fun _ _ => rfl)
    obtain ⟨s1, s2, s3⟩ := blk_sup R I.closed hk
    exact ⟨fun e he => hsupE e (s1 e he), fun _ _ => rfl, rfl⟩
  · refine I.frm.agree fun t sl hsl => ?_
    obtain ⟨s1, s2, s3, s4⟩ := slot_sup R I.closed hsl
    exact ⟨fun e he => hsupE e (s1 e he), fun b hb => hsupB b (s2 b hb), fun e he => hsupE e (s3 e he), fun b hb => hsupB b (s4 b hb)⟩
  · rw [← hsupE _ (.inl (wf_parts R.wf).2.2.2.1)]; exact I.sz0
  · intro j r' hd hr' he
    obtain ⟨o', ho', f'⟩ := R.F.get hr'
    rw [← hsupE _ (.inr ⟨j, r', hr', hd, Nat.le_refl _, by have := (f'.isEf he).2; omega⟩)]
    exact I.szs j r' hd hr' he
theorem Inv.past1 (R : Reg X A ops bf σ env0 β0 out) {env env' : Env} {β β' : Nat → Nat} {a : Act} {w w' : World} (I : Inv X A ops bf σ env0 β0 out D env β a w) {i : Nat} {o : Oper} {r : HR} (hi : out[i]? = some r) (ho : ops.toList[i]? = some o)
    (hE : env σ.sy.s = env' σ.sy.s) (hB : ∀ k, k < σ.blocks.length → β k = β' k) (hw : (hard r = true → isEff A o = true ∧ isMd A o = false) → ∀ b, b < w.heap.size → w'.heap[b]? = w.heap[b]?) :
    σ.sy.live = true → (∀ (j : Nat) (o : Oper) (r : HR), addD D i j = true → ops.toList[j]? = some o → out[j]? = some r → hard r = true → isEff A o = true ∧ isMd A o = false) →
    ∀ b, b < (env' σ.sy.s).2.heap.size → b ∉ σ.sy.ow.map β' → w'.heap[b]? = (env' σ.sy.s).2.heap[b]? := by
  intro hl hsoft b hb hn
  rw [← hE] at hb ⊢
  have hm : σ.sy.ow.map β = σ.sy.ow.map β' := List.map_congr_left fun k hk => hB k ((wf_parts R.wf).2.2.2.2 k hk)
  have h1 := I.past0 hl (fun j o' r' hd ho' hr' hh => hsoft j o' r' (addD_of hd) ho' hr' hh) b hb (by rw [hm]; exact hn)
  rw [hw (fun hh => hsoft i o r (addD_self D i) ho hi hh) b (Nat.lt_of_lt_of_le hb I.sz0), h1]
/-- What is known of untracked memory, one operation later: nothing else. -/
theorem minY_add_soft {i : Nat} {r : HR} (hi : out[i]? = some r) (he : hard r = false) : minY (addD D i) 0 out σ.sy = minY D 0 out σ.sy :=
  minY_same out 0 _ fun j r' hj hh => by
    rw [Nat.zero_add]
    refine addD_ne fun hji => ?_
    subst hji
    rw [hi] at hj
    cases hj
    rw [he] at hh; cases hh
theorem minY_add_hard {i : Nat} {r : HR} (hi : out[i]? = some r) (hD : D i = false) (hlater : ∀ j r', i < j → out[j]? = some r' → D j = true → hard r' = false) : minY (addD D i) 0 out σ.sy = yR true (minY D 0 out σ.sy) r := by
  obtain ⟨h1, h2⟩ := split_at hi
  have hdr : ∀ (j : Nat) (r' : HR), (out.drop (i + 1))[j]? = some r' → out[i + 1 + j]? = some r' := fun j r' h => by rw [List.getElem?_drop] at h; exact h
  have hlast : ∀ (D' : Nat → Bool), (∀ j, j ≠ i → D' j = D j) → ∀ y, minY D' (0 + i + 1) (out.drop (i + 1)) y = y := fun D' hD' y => minY_nil _ _ _ fun j r' hj hh => by
    rw [hD' _ (by omega)]
    cases hd : D (0 + i + 1 + j) with
    | false => rfl
    | true =>
      have := hlater (i + 1 + j) r' (by omega) (hdr j r' hj) (by rw [show 0 + i + 1 + j = i + 1 + j from by omega] at hd; exact hd)
      rw [this] at hh; cases hh
  have eD : minY D 0 out σ.sy = minY D 0 (out.take i) σ.sy := by
    conv => lhs; rw [h1]
    rw [minY_append, h2]
    simp only [minY]
    rw [hlast D (fun _ _ => rfl)]
    unfold yR
    rw [Nat.zero_add, hD]
    cases r.eff <;> rfl
  have eA : minY (addD D i) 0 out σ.sy = yR true (minY D 0 (out.take i) σ.sy) r := by
    conv => lhs; rw [h1]
    rw [minY_append, h2]
    simp only [minY]
    rw [hlast (addD D i) (fun j hj => addD_ne hj), Nat.zero_add, addD_self, minY_congr (D := addD D i) (D' := D) (out.take i) 0 _ (fun j _ hj => addD_ne (by simp at hj; omega))]
  rw [eA, eD]
/-- The frame with the slot filled. -/
theorem frm_add (R : Reg X A ops bf σ env0 β0 out) {env : Env} {β : Nat → Nat} {a : Act} (h : FrmOk env β (minS D 0 out σ.slots) a) (hsize : a.tmps.size = σ.slots.length) {i : Nat} {r : HR} (hi : out[i]? = some r) (v : Value)
    (hv : (conds env β r.slot.g → v = r.slot.s.den env β) ∧ (¬ conds env β r.slot.g → v = undef)) : FrmOk env β (minS (addD D i) 0 out σ.slots) (a.put r.dst v) := by
  have := FrmOk.put (σ := ⟨minS D 0 out σ.slots, [], [], 0, ⟨true, 0, []⟩⟩) h (by rw [hsize]; exact (minS_len _ _ _ _).symm) r.dst r.slot.s r.slot.g v hv
  rw [minS_add R hi]
  cases hd : r.dst with
  | none => rw [hd] at this; exact this
  | some t => rw [hd] at this; exact this
end
end Go.Vc
