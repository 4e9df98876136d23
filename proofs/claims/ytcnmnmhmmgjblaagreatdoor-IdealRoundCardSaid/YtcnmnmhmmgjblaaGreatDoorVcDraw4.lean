/-
  The engine is sound, part 8d: one operation of the head; the whole region.
-/
import Derived.Test.YtcnmnmhmmgjblaaGreatDoorVcDraw3
namespace Go.Vc
open Go Go.RowKit
theorem junk_get (ds : List Nat) : ∀ (s : List Slot) (t k : Nat), (junkSlots ds t s)[k]? = (s[k]?).map fun sl => if ds.contains (t + k) then ⟨.x .junk, []⟩ else sl
  | [], t, k => by simp [junkSlots]
  | s :: r, t, 0 => by simp [junkSlots]
  | s :: r, t, k + 1 => by
    simp only [junkSlots, List.getElem?_cons_succ]
    rw [junk_get ds r (t + 1) k, show t + 1 + k = t + (k + 1) from by omega]
theorem junk_len (ds : List Nat) : ∀ (s : List Slot) (t : Nat), (junkSlots ds t s).length = s.length
  | [], t => rfl
  | s :: r, t => by simp [junkSlots, junk_len ds r]
/-! what waits for what -/
def bfM (acc : List Nat) (o : Oper) : Nat := o.after.toList.foldl (fun s e => if Region.binds .any e then s ||| 2 ^ e.on ||| acc.getD e.on 0 else s) 0
theorem bfOf_cons (o : Oper) (r : List Oper) (acc : List Nat) : bfOf (o :: r) acc = bfOf r (acc ++ [bfM acc o]) := by rw [bfOf]; rfl
theorem bfOf_nil (acc : List Nat) : bfOf [] acc = acc := by rw [bfOf]
theorem bfOf_pre : ∀ (l : List Oper) (acc : List Nat), ∃ tl, bfOf l acc = acc ++ tl
  | [], acc => ⟨[], by rw [bfOf_nil]; simp⟩
  | o :: l, acc => by
    rw [bfOf_cons]
    obtain ⟨tl, h⟩ := bfOf_pre l (acc ++ [bfM acc o])
    exact ⟨bfM acc o :: tl, by rw [h]; simp⟩
theorem bfOf_get : ∀ (l : List Oper) (acc : List Nat) (j : Nat) (o : Oper), l[j]? = some o → (bfOf l acc)[acc.length + j]? = some (bfM ((bfOf l acc).take (acc.length + j)) o)
  | [], acc, j, o, h => by simp at h
  | o :: l, acc, 0, o', h => by
    simp at h
    subst h
    obtain ⟨tl, ht⟩ := bfOf_pre l (acc ++ [bfM acc o])
    rw [bfOf_cons, ht]
    simp
  | o :: l, acc, j + 1, o', h => by
    have := bfOf_get l (acc ++ [bfM acc o]) j o' (by simpa using h)
    rw [bfOf_cons]
    rw [List.length_append] at this
    simp only [List.length_cons, List.length_nil, Nat.zero_add] at this
    rw [show acc.length + (j + 1) = acc.length + 1 + j from by omega]
    exact this
theorem bf_fold (acc : List Nat) (j : Nat) : ∀ (es : List Edge) (s : Nat), (es.foldl (fun s e => if Region.binds .any e then s ||| 2 ^ e.on ||| acc.getD e.on 0 else s) s).testBit j = true ↔
    s.testBit j = true ∨ ∃ e ∈ es, Region.binds .any e = true ∧ (j = e.on ∨ (acc.getD e.on 0).testBit j = true)
  | [], s => by simp
  | e :: es, s => by
    rw [List.foldl_cons, bf_fold acc j es]
    by_cases hb : Region.binds .any e = true
    · rw [if_pos hb, Nat.testBit_or, Nat.testBit_or, Nat.testBit_two_pow]
      simp only [Bool.or_eq_true, decide_eq_true_eq, List.mem_cons, exists_eq_or_imp, hb, true_and]
      constructor
      · rintro (((h | h) | h) | h)
        · exact .inl h
        · exact .inr (.inl (.inl h.symm))
        · exact .inr (.inl (.inr h))
        · exact .inr (.inr h)
      · rintro (h | (h | h) | h)
        · exact .inl (.inl (.inl h))
        · exact .inl (.inl (.inr h.symm))
        · exact .inl (.inr h)
        · exact .inr h
    · rw [if_neg hb]
      simp only [List.mem_cons, exists_eq_or_imp, hb, Bool.false_eq_true, false_and, false_or]
theorem bf_at {l : List Oper} {i : Nat} {o : Oper} (h : l[i]? = some o) (j : Nat) : ((bfOf l []).getD i 0).testBit j = true ↔ ∃ e ∈ o.after.toList, Region.binds .any e = true ∧ (j = e.on ∨ (((bfOf l []).take i).getD e.on 0).testBit j = true) := by
  have := bfOf_get l [] i o h
  simp only [List.length_nil, Nat.zero_add] at this
  rw [List.getD_eq_getElem?_getD, this]
  simp only [Option.getD_some, bfM]
  rw [bf_fold]
  simp
theorem bf_bwd {l : List Oper} {i : Nat} {o : Oper} (h : l[i]? = some o) {j : Nat} (hj : ((bfOf l []).getD i 0).testBit j = true) : ∃ e ∈ o.after.toList, Region.binds .any e = true ∧ (j = e.on ∨ ((bfOf l []).getD e.on 0).testBit j = true) := by
  obtain ⟨e, he, hb, hor⟩ := (bf_at h j).1 hj
  refine ⟨e, he, hb, hor.imp id fun h2 => ?_⟩
  rw [List.getD_eq_getElem?_getD, List.getElem?_take] at h2
  split at h2
  · rw [List.getD_eq_getElem?_getD]; exact h2
  · simp at h2
theorem bf_fwd {l : List Oper} {i : Nat} {o : Oper} (h : l[i]? = some o) {e : Edge} (he : e ∈ o.after.toList) (hb : Region.binds .any e = true) : ((bfOf l []).getD i 0).testBit e.on = true :=
  (bf_at h e.on).2 ⟨e, he, hb, .inl rfl⟩
theorem okBf_lt (bf : List Nat) : ∀ (l : List Nat) (i : Nat), okBf bf i l = true → ∀ j, l.getD j 0 < 2 ^ (i + j)
  | [], i, _, j => by simp; exact Nat.pow_pos (by omega)
  | m :: r, i, h, 0 => by simp only [okBf, Bool.and_eq_true, decide_eq_true_eq] at h; simpa using h.1
  | m :: r, i, h, j + 1 => by
    simp only [okBf, Bool.and_eq_true, decide_eq_true_eq] at h
    have := okBf_lt bf r (i + 1) h.2 j
    rw [show i + (j + 1) = i + 1 + j from by omega]
    simpa using this
theorem distinct_spec : ∀ (l : List Oper), distinct (l.filterMap (·.dst)) = true → ∀ (i j : Nat) (o o' : Oper) (t : Nat), l[i]? = some o → l[j]? = some o' → o.dst = some t → o'.dst = some t → i = j
  | [], _, i, j, o, o', t, h1, _, _, _ => by simp at h1
  | q :: l, h, i, j, o, o', t, h1, h2, h3, h4 => by
    have hl : distinct (l.filterMap (·.dst)) = true ∧ ∀ t, q.dst = some t → t ∉ l.filterMap (·.dst) := by
      cases hq : q.dst with
      | none => rw [List.filterMap_cons_none hq] at h; exact ⟨h, fun t ht => by cases ht⟩
      | some t0 =>
        rw [List.filterMap_cons_some hq] at h
        simp only [distinct, Bool.and_eq_true, Bool.not_eq_true', List.contains_eq_mem, decide_eq_false_iff_not] at h
        exact ⟨h.2, fun t ht => by cases ht; exact h.1⟩
    have hin : ∀ (j : Nat) (o' : Oper), l[j]? = some o' → o'.dst = some t → t ∈ l.filterMap (·.dst) := fun j o' hj hd => List.mem_filterMap.2 ⟨o', List.mem_of_getElem? hj, hd⟩
    cases i with
    | zero =>
      cases j with
      | zero => rfl
      | succ j =>
        simp at h1 h2
        subst h1
        exact absurd (hin j o' h2 h4) (hl.2 t h3)
    | succ i =>
      cases j with
      | zero =>
        simp at h1 h2
        subst h2
        exact absurd (hin i o h1 h3) (hl.2 t h4)
      | succ j => rw [distinct_spec l hl.1 i j o o' t (by simpa using h1) (by simpa using h2) h3 h4]
theorem memOk_spec {A : Ann} {l : List Oper} {bf : List Nat} (h : memOk A l bf = true) {i j : Nat} {o o' : Oper} (hi : l[i]? = some o) (hj : l[j]? = some o') (h1 : isMem A o = true) (h2 : isMem A o' = true)
    (h3 : isStore o = true ∨ isStore o' = true ∨ (isEff A o = true ∧ isEff A o' = true)) (hij : j < i) (hld : isLd A o' = false) : (bf.getD i 0).testBit j = true := by
  unfold memOk at h
  rw [List.all_eq_true] at h
  have k1 := h (o, i) (List.mem_zipIdx_iff_getElem?.2 hi)
  simp only [h1, Bool.not_true, Bool.false_or, List.all_eq_true] at k1
  have k2 := k1 (o', j) (List.mem_zipIdx_iff_getElem?.2 hj)
  have k3 : (isStore o || isStore o' || (isEff A o && isEff A o')) = true := by
    rcases h3 with h | h | ⟨h, h'⟩
    · simp [h]
    · simp [h]
    · simp [h, h']
  simp only [h2, k3, hld, Bool.and_false, Bool.or_false, Bool.not_true, Bool.false_or, Bool.or_eq_true, Bool.not_eq_true', decide_eq_false_iff_not] at k2
  rcases k2 with k2 | k2
  · omega
  · exact k2
theorem ldOk_spec {A : Ann} {l : List Oper} {bf : List Nat} {nb : Nat} {out : List HR} (h : ldOk A l bf nb out = true) {i j : Nat} {o : Oper} {r : HR} {k : Nat} {b : Blk} (hj : l[j]? = some o) (h1 : isLd A o = true) (hi : out[i]? = some r) (he : r.eff = .set k b) (hij : j < i) :
    (bf.getD i 0).testBit j = true ∨ nb + cntNew (out.take j) ≤ k := by
  unfold ldOk at h
  rw [List.all_eq_true] at h
  have k1 := h (o, j) (List.mem_zipIdx_iff_getElem?.2 hj)
  simp only [h1, Bool.not_true, Bool.false_or, List.all_eq_true] at k1
  have k2 := k1 (r, i) (List.mem_zipIdx_iff_getElem?.2 hi)
  simp only [he, Bool.or_eq_true, Bool.not_eq_true', decide_eq_false_iff_not, decide_eq_true_eq] at k2
  rcases k2 with (k2 | k2) | k2
  · exact absurd hij k2
  · exact .inl k2
  · exact .inr k2
theorem isLd_store {A : Ann} {o : Oper} (h : isStore o = true) : isLd A o = false := by simp [isLd, h]
theorem isMd_store {A : Ann} {o : Oper} (h : isStore o = true) : isMd A o = true := by
  unfold isStore at h
  unfold isMd
  split at h
  · rename_i he; rw [he]
  · cases h
theorem isLd_eff {A : Ann} {o : Oper} (h : isEff A o = true) : isLd A o = false := by simp [isLd, h]
theorem effOrd_spec {A : Ann} {l : List Oper} {bf : List Nat} {i j : Nat} (h : effOrd A l bf i = true) {o' : Oper} (hj : l[j]? = some o') (he : isEff A o' = true ∨ isStore o' = true) (hne : j ≠ i) : (bf.getD i 0).testBit j = true ∨ (bf.getD j 0).testBit i = true := by
  unfold effOrd at h
  rw [List.all_eq_true] at h
  have k1 := h (o', j) (List.mem_zipIdx_iff_getElem?.2 hj)
  have he' : (isEff A o' || isStore o') = true := by rcases he with h | h <;> simp [h]
  simp only [he', Bool.not_true, Bool.false_or, Bool.or_eq_true, beq_iff_eq] at k1
  rcases k1 with (k1 | k1) | k1
  · exact absurd k1 hne
  · exact .inl k1
  · exact .inr k1
theorem freeLd_spec {A : Ann} {l : List Oper} {bf : List Nat} {i j : Nat} (h : freeLd A l bf i = true) {o' : Oper} (hj : l[j]? = some o') (he : isEff A o' = true ∨ isStore o' = true) : (bf.getD i 0).testBit j = false ∧ ((bf.getD j 0).testBit i = true ∨ (isEff A o' = true ∧ isMd A o' = false)) := by
  unfold freeLd at h
  rw [List.all_eq_true] at h
  have k1 := h (o', j) (List.mem_zipIdx_iff_getElem?.2 hj)
  have he' : (isEff A o' || isStore o') = true := by rcases he with h | h <;> simp [h]
  simpa only [he', Bool.not_true, Bool.false_or, Bool.and_eq_true, Bool.or_eq_true, Bool.not_eq_true'] using k1
theorem newOrd_spec {l : List Oper} {bf : List Nat} {i j : Nat} (h : newOrd l bf i = true) {o' : Oper} (hj : l[j]? = some o') (he : isNewOp o' = true) (hne : j ≠ i) : (bf.getD i 0).testBit j = true ∨ (bf.getD j 0).testBit i = true := by
  unfold newOrd at h
  rw [List.all_eq_true] at h
  have k1 := h (o', j) (List.mem_zipIdx_iff_getElem?.2 hj)
  simp only [he, Bool.not_true, Bool.false_or, Bool.or_eq_true, beq_iff_eq] at k1
  rcases k1 with (k1 | k1) | k1
  · exact absurd k1 hne
  · exact .inl k1
  · exact .inr k1
theorem mem_clash {l : List Oper} {bf : List Nat} {i j : Nat} {o : Oper} {t : Nat} (hj : l[j]? = some o) (hd : o.dst = some t) (hne : j ≠ i) (h1 : (bf.getD i 0).testBit j = false) (h2 : (bf.getD j 0).testBit i = false) : t ∈ clash l bf i := by
  unfold clash
  rw [List.mem_filterMap]
  refine ⟨(o, j), List.mem_zipIdx_iff_getElem?.2 hj, ?_⟩
  simp only [h1, h2, Bool.or_false, if_false, beq_iff_eq, hne, hd]
theorem isMem_of_store {A : Ann} {o : Oper} (h : isStore o = true) : isMem A o = true := by simp [isMem, h]
theorem isMem_of_eff {A : Ann} {o : Oper} (h : isEff A o = true) : isMem A o = true := by simp [isMem, h]
section
variable {X : Ctx} {A : Ann} {ops : Array Oper} {bf : List Nat} {σ : St} {env0 : Env} {β0 : Nat → Nat} {out : List HR} {D : Nat → Bool} {i : Nat}
theorem headAt_slots (ne : Nat) (o : Oper) : (headAt A ops bf σ out i ne o).slots = minS (bf.getD i 0).testBit 0 (out.take i) (junkSlots (clash ops.toList bf i) 0 σ.slots) := by
  simp only [headAt, headSt, minSt_eq]
theorem headAt_blocks (ne : Nat) (o : Oper) : (headAt A ops bf σ out i ne o).blocks = if isMem A o then minB (bf.getD i 0).testBit 0 (out.take i) σ.blocks else (minB (bf.getD i 0).testBit 0 (out.take i) σ.blocks).map fun _ => none := by
  simp only [headAt, headSt, minSt_eq]
theorem headAt_ne (ne : Nat) (o : Oper) : (headAt A ops bf σ out i ne o).ne = ne := rfl
theorem headAt_gl (ne : Nat) (o : Oper) : (headAt A ops bf σ out i ne o).gl = σ.gl := by simp only [headAt, headSt, minSt_eq]
theorem headAt_len (ne : Nat) (o : Oper) : (headAt A ops bf σ out i ne o).blocks.length = nbOf σ out i := headSt_len _ _ _ _ _ _ _
theorem headAt_sy (ne : Nat) (o : Oper) : (headAt A ops bf σ out i ne o).sy = ⟨(minY (bf.getD i 0).testBit 0 (out.take i) σ.sy).live && seesOrd A ops.toList bf i o, (minY (bf.getD i 0).testBit 0 (out.take i) σ.sy).s, (minY (bf.getD i 0).testBit 0 (out.take i) σ.sy).ow⟩ := by
  simp only [headAt, headSt, minSt_eq]
/-- Two operations of which one waits for the other, the first of them done. -/
theorem ordered_lt (R : Reg X A ops bf σ env0 β0 out) (hC : Closed bf D) (hD : D i = false) {j : Nat} (hd : D j = true) (h : (bf.getD i 0).testBit j = true ∨ (bf.getD j 0).testBit i = true) : j < i ∧ (bf.getD i 0).testBit j = true := by
  rcases h with h | h
  · refine ⟨?_, h⟩
    rcases Nat.lt_or_ge j i with h' | h'
    · exact h'
    · have := R.lt i
      rw [Nat.testBit_lt_two_pow (Nat.lt_of_lt_of_le this (Nat.pow_le_pow_right (by omega) h'))] at h
      cases h
  · have := hC j i hd h
    rw [hD] at this; cases this
theorem head_slot (R : Reg X A ops bf σ env0 β0 out) (hC : Closed bf D) (hD : D i = false) (hbf : ∀ j, (bf.getD i 0).testBit j = true → D j = true) {ne : Nat} {o : Oper} {t : Nat} {sl : Slot}
    (h : (headAt A ops bf σ out i ne o).slots[t]? = some sl) (hok : okSV sl.s = true) : (minS D 0 out σ.slots)[t]? = some sl := by
  rw [headAt_slots] at h
  have hlt : t < σ.slots.length := by
    have := (List.getElem?_eq_some_iff.1 h).1
    rwa [minS_len, junk_len] at this
  have huniq : ∀ (j : Nat) (r0 : HR) (t : Nat), out[j]? = some r0 → r0.dst = some t → ∀ j' r', out[j']? = some r' → j' ≠ j → r'.dst ≠ some t := fun j r0 t hj hdst j' r' hj' hne hdst' => by
    obtain ⟨o1, ho1, f1⟩ := R.F.get hj
    obtain ⟨o2, ho2, f2⟩ := R.F.get hj'
    exact hne (R.dist j' j o2 o1 t ho2 ho1 (by rw [← f2.dst]; exact hdst') (by rw [← f1.dst]; exact hdst))
  by_cases hx : ∃ j r, (out.take i)[j]? = some r ∧ (bf.getD i 0).testBit j = true ∧ r.dst = some t
  · obtain ⟨j, r, hj, hd, hdst⟩ := hx
    have hj' := (take_some hj).1
    rw [minS_hit (D := (bf.getD i 0).testBit) _ 0 _ hj (by simpa using hd) hdst (by rw [junk_len]; exact hlt) (fun j' r' h1 h2 => huniq j r t hj' hdst j' r' (take_some h1).1 h2)] at h
    rw [minS_hit (D := D) _ 0 _ hj' (by simpa using hbf j hd) hdst hlt (huniq j r t hj' hdst)]
    exact h
  · rw [minS_miss (D := (bf.getD i 0).testBit) _ 0 _ (fun j r hj hd hdst => hx ⟨j, r, hj, by simpa using hd, hdst⟩), junk_get] at h
    cases hs : σ.slots[t]? with
    | none => rw [hs] at h; cases h
    | some sl0 =>
      rw [hs] at h
      simp only [Option.map_some, Option.some.injEq, Nat.zero_add] at h
      split at h
      · subst h; simp [okSV, okAt] at hok
      · rename_i hnc
        subst h
        rw [minS_miss (D := D), hs]
        intro j r hj hd hdst
        simp only [Nat.zero_add] at hd
        obtain ⟨o', ho', f'⟩ := R.F.get hj
        apply hnc
        rw [List.contains_eq_mem, decide_eq_true_eq]
        refine mem_clash ho' (by rw [← f'.dst]; exact hdst) (fun he => by subst he; rw [hD] at hd; cases hd) ?_ ?_
        · refine Bool.eq_false_iff.2 fun hb => hx ⟨j, r, ?_, hb, hdst⟩
          have hji : j < i := by
            rcases Nat.lt_or_ge j i with h' | h'
            · exact h'
            · have := R.lt i
              rw [Nat.testBit_lt_two_pow (Nat.lt_of_lt_of_le this (Nat.pow_le_pow_right (by omega) h'))] at hb
              cases hb
          rw [List.getElem?_take, if_pos hji]; exact hj
        · refine Bool.eq_false_iff.2 fun hb => ?_
          have := hC j i hd hb
          rw [hD] at this; cases this
/-- Behind an operation on memory that is not done a store that is done is ahead of it, or to a block that is newer. -/
theorem no_later0 (R : Reg X A ops bf σ env0 β0 out) (hC : Closed bf D) (hD : D i = false) {o : Oper} (ho : ops.toList[i]? = some o) (hm : isMem A o = true) {j : Nat} {r : HR} {k : Nat} {b : Blk} (hj : out[j]? = some r) (hd : D j = true) (he : r.eff = .set k b) : (j < i ∧ (bf.getD i 0).testBit j = true) ∨ (isLd A o = true ∧ nbOf σ out i ≤ k) := by
  obtain ⟨o', ho', f'⟩ := R.F.get hj
  have hst := f'.isSet ⟨k, b, he⟩
  rcases Nat.lt_trichotomy j i with h | h | h
  · exact .inl (ordered_lt R hC hD hd (.inl (R.mem i j o o' ho ho' hm (isMem_of_store hst) (.inr (.inl hst)) h (isLd_store hst))))
  · subst h; rw [hD] at hd; cases hd
  · cases hl : isLd A o with
    | false => exact .inl (ordered_lt R hC hD hd (.inr (R.mem j i o' o ho' ho (isMem_of_store hst) hm (.inl hst) h hl)))
    | true =>
      rcases R.ld j i o r k b ho hl hj he h with h1 | h1
      · exact .inl (ordered_lt R hC hD hd (.inr h1))
      · exact .inr ⟨rfl, h1⟩
theorem no_later (R : Reg X A ops bf σ env0 β0 out) (hC : Closed bf D) (hD : D i = false) {o : Oper} (ho : ops.toList[i]? = some o) (hm : isMem A o = true) (hl : isLd A o = false) {j : Nat} {r : HR} {k : Nat} {b : Blk} (hj : out[j]? = some r) (hd : D j = true) (he : r.eff = .set k b) : j < i ∧ (bf.getD i 0).testBit j = true := by
  rcases no_later0 R hC hD ho hm hj hd he with h | ⟨h, _⟩
  · exact h
  · rw [hl] at h; cases h
/-- The same for what changes untracked memory. -/
theorem no_later' (R : Reg X A ops bf σ env0 β0 out) (hC : Closed bf D) (hD : D i = false) {o : Oper} (ho : ops.toList[i]? = some o) (hm : isStore o = true ∨ isEff A o = true ∨ (isMem A o = true ∧ effOrd A ops.toList bf i = true)) {j : Nat} {r : HR} (hj : out[j]? = some r) (hd : D j = true) (he : hard r = true) : j < i ∧ (bf.getD i 0).testBit j = true := by
  have hmem : isMem A o = true := by
    rcases hm with h | h | h
    · exact isMem_of_store h
    · exact isMem_of_eff h
    · exact h.1
  cases hef : r.eff with
  | set k b =>
    obtain ⟨o', ho', f'⟩ := R.F.get hj
    have hst := f'.isSet ⟨k, b, hef⟩
    rcases hm with h | h | h
    · exact no_later R hC hD ho hmem (isLd_store h) hj hd hef
    · exact no_later R hC hD ho hmem (isLd_eff h) hj hd hef
    · exact ordered_lt R hC hD hd (effOrd_spec h.2 ho' (.inr hst) (fun hji => by subst hji; rw [hD] at hd; cases hd))
  | none => simp [hard, hef] at he
  | new b => simp [hard, hef] at he
  | eff =>
    obtain ⟨o', ho', f'⟩ := R.F.get hj
    have hst := (f'.isEf hef).1
    refine ordered_lt R hC hD hd ?_
    rcases hm with h | h | h
    · rcases Nat.lt_trichotomy j i with h' | h' | h'
      · exact .inl (R.mem i j o o' ho ho' hmem (isMem_of_eff hst) (.inl h) h' (isLd_eff hst))
      · subst h'; rw [hD] at hd; cases hd
      · exact .inr (R.mem j i o' o ho' ho (isMem_of_eff hst) hmem (.inr (.inl h)) h' (isLd_store h))
    · rcases Nat.lt_trichotomy j i with h' | h' | h'
      · exact .inl (R.mem i j o o' ho ho' hmem (isMem_of_eff hst) (.inr (.inr ⟨h, hst⟩)) h' (isLd_eff hst))
      · subst h'; rw [hD] at hd; cases hd
      · exact .inr (R.mem j i o' o ho' ho (isMem_of_eff hst) hmem (.inr (.inr ⟨hst, h⟩)) h' (isLd_eff h))
    · exact effOrd_spec h.2 ho' (.inl hst) (fun hji => by subst hji; rw [hD] at hd; cases hd)
theorem head_blk (R : Reg X A ops bf σ env0 β0 out) (hC : Closed bf D) (hD : D i = false) (hbf : ∀ j, (bf.getD i 0).testBit j = true → D j = true) {ne : Nat} {o : Oper} (ho : ops.toList[i]? = some o) {k : Nat} {b : Blk}
    (h : (headAt A ops bf σ out i ne o).blocks[k]? = some (some b)) : isMem A o = true ∧ (minB D 0 out σ.blocks)[k]? = some (some b) := by
  rw [headAt_blocks] at h
  split at h
  · rename_i hm
    refine ⟨hm, ?_⟩
    have h1 : (minB D 0 (out.take i) σ.blocks)[k]? = some (some b) := by
      refine minB_sub (D := (bf.getD i 0).testBit) (D' := D) (out.take i) 0 σ.blocks σ.blocks rfl (fun _ _ h => h) (fun j r hj hd => hbf _ hd) (fun j r k b hj he hd => ?_) k b h
      simp only [Nat.zero_add] at hd ⊢
      obtain ⟨hj', hji⟩ := take_some hj
      obtain ⟨o', ho', f'⟩ := R.F.get hj'
      have hst := f'.isSet ⟨_, _, he⟩
      exact R.mem i j o o' ho ho' hm (isMem_of_store hst) (.inr (.inl hst)) hji (isLd_store hst)
    have hsplit : out = out.take i ++ out.drop i := (List.take_append_drop i out).symm
    rw [hsplit, minB_append]
    have hkn : k < nbOf σ out i := by
      have := (List.getElem?_eq_some_iff.1 h1).1
      rw [minB_len] at this; exact this
    refine minB_keep _ _ _ (fun j r k' b' hj hd hkk he => ?_) h1
    have hli : (out.take i).length ≤ i := by simp; omega
    rw [List.getElem?_drop] at hj
    have hil : (out.take i).length = i := by
      have := (List.getElem?_eq_some_iff.1 hj).1
      simp; omega
    rw [hil, Nat.zero_add] at hd
    rcases no_later0 R hC hD ho hm hj hd he with h | ⟨_, h⟩
    · omega
    · omega
  · rw [List.getElem?_map] at h
    cases hh : (minB (bf.getD i 0).testBit 0 (out.take i) σ.blocks)[k]? with
    | none => rw [hh] at h; cases h
    | some x => rw [hh] at h; simp at h
theorem head_wf (R : Reg X A ops bf σ env0 β0 out) {r : HR} (hi : out[i]? = some r) (o : Oper) : wf (headAt A ops bf σ out i r.ne o) = true := by
  obtain ⟨o', ho', f⟩ := R.F.get hi
  obtain ⟨w1, w2, w3, w4, w5⟩ := wf_parts R.wf
  have hne : σ.ne ≤ r.ne := R.F.ne_ge hi
  have hnb : σ.blocks.length ≤ nbOf σ out i := by unfold nbOf; omega
  have hjE : ∀ (j : Nat) (s : HR), (out.take i)[j]? = some s → s.ne + s.nds.length ≤ r.ne := fun j s hj => R.F.ne_le (take_some hj).1 hi (take_some hj).2
  have hjB : ∀ (j : Nat) (s : HR), (out.take i)[j]? = some s → nbOf σ out j ≤ nbOf σ out i := fun j s hj => by have := cntNew_take_le out (Nat.le_of_lt (take_some hj).2); unfold nbOf; omega
  have hjN : ∀ (j : Nat) (s : HR), (out.take i)[j]? = some s → isNew s = true → nbOf σ out j < nbOf σ out i := fun j s hj hn => by have := cntNew_lt (take_some hj).1 hn (take_some hj).2; unfold nbOf; omega
  have heq : headAt A ops bf σ out i r.ne o = ⟨(headAt A ops bf σ out i r.ne o).slots, (headAt A ops bf σ out i r.ne o).blocks, σ.gl, r.ne, (headAt A ops bf σ out i r.ne o).sy⟩ := by
    conv => rhs; rw [← headAt_gl (A := A) (ops := ops) (bf := bf) (out := out) (i := i) r.ne o]
    rfl
  rw [heq]
  refine wf_mk (fun s hs => ?_) (fun b hb => ?_) (fun p hp => ?_) ?_ (fun k hk => ?_)
  · rw [headAt_len]
    obtain ⟨t, ht⟩ := List.getElem?_of_mem hs
    rw [headAt_slots] at ht
    have hlt : t < σ.slots.length := by
      have := (List.getElem?_eq_some_iff.1 ht).1
      rwa [minS_len, junk_len] at this
    by_cases hx : ∃ j r, (out.take i)[j]? = some r ∧ (bf.getD i 0).testBit j = true ∧ r.dst = some t
    · obtain ⟨j, rj, hj, hd, hdst⟩ := hx
      obtain ⟨oj, hoj, fj⟩ := R.F.get (take_some hj).1
      rw [minS_hit (D := (bf.getD i 0).testBit) _ 0 _ hj (by simpa using hd) hdst (by rw [junk_len]; exact hlt) (fun j' r' h1 h2 hdst' => by
        obtain ⟨o2, ho2, f2⟩ := R.F.get (take_some h1).1
        exact h2 (R.dist j' j o2 oj t ho2 hoj (by rw [← f2.dst]; exact hdst') (by rw [← fj.dst]; exact hdst)))] at ht
      cases ht
      have b1 := hjE j rj hj
      have b2 := hjB j rj hj
      have sE : ∀ e, SupE σ.ne (out.take j) (bf.getD j 0).testBit e → e < r.ne := fun e he => by have := R.F.supE_lt (take_some hj).1 he; omega
      have sB : ∀ b, SupB σ.blocks.length (out.take j) (bf.getD j 0).testBit b → b < nbOf σ out i := fun b hb => by have h1 : b < nbOf σ out j := supB_lt hb; omega
      simp only [okSlot, okE, okG, Bool.and_eq_true, List.all_eq_true, decide_eq_true_eq]
      refine ⟨⟨fun e he => ?_, fun b hb => ?_⟩, fun e he => sE e (fj.gE e he), fun b hb => sB b (fj.gB b hb)⟩
      · rcases fj.sE e he with h | h
        · exact sE e h
        · omega
      · rcases fj.sB b hb with h | ⟨h1, h2⟩
        · exact sB b h
        · rw [h2]; exact hjN j rj hj h1
    · rw [minS_miss (D := (bf.getD i 0).testBit) _ 0 _ (fun j r hj hd hdst => hx ⟨j, r, hj, by simpa using hd, hdst⟩), junk_get] at ht
      cases hs0 : σ.slots[t]? with
      | none => rw [hs0] at ht; cases ht
      | some sl0 =>
        rw [hs0] at ht
        simp only [Option.map_some, Option.some.injEq, Nat.zero_add] at ht
        split at ht
        · subst ht; rfl
        · subst ht; exact okSlot_mono (w1 _ (List.mem_of_getElem? hs0)) hne hnb
  · rw [headAt_len]
    cases b with
    | none => rfl
    | some b =>
      obtain ⟨k, hk⟩ := List.getElem?_of_mem hb
      rw [headAt_blocks] at hk
      split at hk
      · rcases minB_mem _ 0 _ hk with h | ⟨j, rj, hj, hd, hr⟩
        · exact okB_mono (w2 _ (List.mem_of_getElem? h)) hne hnb
        · obtain ⟨oj, hoj, fj⟩ := R.F.get (take_some hj).1
          have b1 := hjE j rj hj
          have b2 := hjB j rj hj
          have hkind : rj.eff = .new b ∨ ∃ k, rj.eff = .set k b := by
            rcases hr with h | h
            · exact .inl h.1
            · exact .inr ⟨k, h⟩
          simp only [okB, okC, Bool.and_eq_true, List.all_eq_true, decide_eq_true_eq]
          refine ⟨fun e he => ?_, fun c hc => ?_⟩
          · rcases fj.cE b hkind e he with h | h
            · have := R.F.supE_lt (take_some hj).1 h; omega
            · omega
          · have h1 : c < nbOf σ out j := supB_lt (fj.cB b hkind c hc)
            have b3 := hjB j rj hj
            omega
      · rw [List.getElem?_map] at hk
        cases hh : (minB (bf.getD i 0).testBit 0 (out.take i) σ.blocks)[k]? with
        | none => rw [hh] at hk; cases hk
        | some x => rw [hh] at hk; simp at hk
  · rw [headAt_len]
    have := w3 p hp
    omega
  · rw [headAt_sy]
    simp only
    rcases minY_s (D := (bf.getD i 0).testBit) (out.take i) 0 σ.sy with h | ⟨j, s, hj, hd, he, h⟩
    · rw [h]; omega
    · obtain ⟨oj, hoj, fj⟩ := R.F.get (take_some hj).1
      have b1 := hjE j s hj
      have := (fj.isEf he).2
      rw [h]; omega
  · rw [headAt_len]
    rw [headAt_sy] at hk
    simp only at hk
    rcases minY_ow (out.take i) 0 σ.sy hk with h | ⟨j, s, b, hj, hd, he⟩
    · have := w5 k h; omega
    · obtain ⟨oj, hoj, fj⟩ := R.F.get (take_some hj).1
      have h1 : k < nbOf σ out j := supB_lt (fj.kB k b he)
      have b3 := hjB j s hj
      omega
theorem headY_eq (R : Reg X A ops bf σ env0 β0 out) (hC : Closed bf D) (hD : D i = false) (hbf : ∀ j, (bf.getD i 0).testBit j = true → D j = true) {o : Oper} (ho : ops.toList[i]? = some o)
    (hm : isStore o = true ∨ isEff A o = true ∨ (isMem A o = true ∧ effOrd A ops.toList bf i = true)) (hi : i < out.length) : minY (bf.getD i 0).testBit 0 (out.take i) σ.sy = minY D 0 out σ.sy := by
  have hsplit : out = out.take i ++ out.drop i := (List.take_append_drop i out).symm
  have hil : (out.take i).length = i := by simp; omega
  have e1 : minY D 0 out σ.sy = minY D 0 (out.take i) σ.sy := by
    conv => lhs; rw [hsplit]
    rw [minY_append, hil]
    refine minY_nil _ _ _ fun j r hj hh => ?_
    rw [List.getElem?_drop] at hj
    rw [Nat.zero_add]
    cases hd : D (i + j) with
    | false => rfl
    | true => have := (no_later' R hC hD ho hm hj hd hh).1; omega
  rw [e1]
  refine minY_same _ _ _ fun j r hj hh => ?_
  rw [Nat.zero_add]
  cases hd : D j with
  | true => exact (no_later' R hC hD ho hm (take_some hj).1 hd hh).2
  | false =>
    cases hb : (bf.getD i 0).testBit j with
    | false => rfl
    | true => rw [hbf j hb] at hd; cases hd
theorem freeY_eq (R : Reg X A ops bf σ env0 β0 out) (hf : freeLd A ops.toList bf i = true) (_ : ∀ j, (bf.getD i 0).testBit j = true → D j = true) (_ : i < out.length) : minY (bf.getD i 0).testBit 0 (out.take i) σ.sy = σ.sy := by
  refine minY_nil _ _ _ fun j r hj hh => ?_
  obtain ⟨hj', _⟩ := take_some hj
  obtain ⟨o', ho', f'⟩ := R.F.get hj'
  rw [Nat.zero_add]
  refine (freeLd_spec hf ho' ?_).1
  cases hef : r.eff with
  | set k b => exact .inr (f'.isSet ⟨k, b, hef⟩)
  | eff => exact .inl (f'.isEf hef).1
  | none => simp [hard, hef] at hh
  | new b => simp [hard, hef] at hh
theorem head_sat (R : Reg X A ops bf σ env0 β0 out) {env : Env} {β : Nat → Nat} {a : Act} {w : World} (I : Inv X A ops bf σ env0 β0 out D env β a w) (hD : D i = false) (hbf : ∀ j, (bf.getD i 0).testBit j = true → D j = true) (ne : Nat) {o : Oper} (ho : ops.toList[i]? = some o) (hi : i < out.length) :
    Sat X (headAt A ops bf σ out i ne o) env β a w := by
  refine ⟨?_, I.defers, ?_, fun t sl hsl hok => I.frm t sl (head_slot R I.closed hD hbf hsl hok) hok⟩
  · rw [headAt_gl]
    refine I.mem.sub' (fun k b hk => (head_blk R I.closed hD hbf ho hk).2) (fun hl => ?_) ?_
    · rw [headAt_sy] at hl ⊢
      simp only [Bool.and_eq_true, seesOrd, Bool.or_eq_true] at hl ⊢
      obtain ⟨hl1, hl2, hl3⟩ := hl
      rcases hl3 with hl3 | ⟨_, hl3⟩
      · rw [headY_eq R I.closed hD hbf ho (.inr (.inr ⟨hl2, hl3⟩)) hi] at hl1 ⊢
        exact I.mem.past hl1
      · have hy := freeY_eq (σ := σ) R hl3 hbf hi
        rw [hy] at hl1 ⊢
        refine I.past0 hl1 fun j o' r' hd ho' hr' hh => ?_
        obtain ⟨o2, ho2, f2⟩ := R.F.get hr'
        rw [ho'] at ho2
        cases ho2
        have hes : isEff A o' = true ∨ isStore o' = true := by
          cases hef : r'.eff with
          | set k b => exact .inr (f2.isSet ⟨k, b, hef⟩)
          | eff => exact .inl (f2.isEf hef).1
          | none => simp [hard, hef] at hh
          | new b => simp [hard, hef] at hh
        rcases (freeLd_spec hl3 ho' hes).2 with h | h
        · have := I.closed j i hd h
          rw [hD] at this; cases this
        · exact h
    · rw [headAt_sy]
      simp only
      rcases minY_s (D := (bf.getD i 0).testBit) (out.take i) 0 σ.sy with h | ⟨j, s, hj, hd, he, h⟩
      · rw [h]; exact I.sz0
      · rw [Nat.zero_add] at hd
        obtain ⟨oj, hoj, fj⟩ := R.F.get (take_some hj).1
        have := (fj.isEf he).2
        rw [h, show s.ne + s.nds.length - 1 = s.ne from by omega]
        exact I.szs j s (hbf j hd) (take_some hj).1 he
  · rw [headAt_slots, minS_len, junk_len]; exact I.size
theorem alloc_old (w : World) (x : Obj) {b : Nat} (hb : b < w.heap.size) : (w.alloc x).heap[b]? = w.heap[b]? := by
  show (w.heap.push x)[b]? = _
  rw [Array.getElem?_push_lt hb]
  exact (Array.getElem?_eq_getElem hb).symm
/-- A block more. -/
theorem inv_new (G : Good X A) (R : Reg X A ops bf σ env0 β0 out) {env : Env} {β : Nat → Nat} {a : Act} {w : World} (I : Inv X A ops bf σ env0 β0 out D env β a w) {r : HR} (hr : out[i]? = some r) (hD : D i = false)
    (hbf : ∀ j, (bf.getD i 0).testBit j = true → D j = true) {b : Blk} (he : r.eff = .new b) (hg : r.slot.g = []) {vs : List Val} (hvs : Chain X β r.nds env r.ne vs) (hnb : (env r.s).2.heap.size ≤ w.heap.size)
    (hsz : (b.cont.den (updl env r.ne vs) β).size = b.n) (hcok : b.cont.ok (updl env r.ne vs)) (hown : b.own = true) {v : Value} (hv : v = r.slot.s.den (updl env r.ne vs) (upd β (nbOf σ out i) w.heap.size)) :
    Inv X A ops bf σ env0 β0 out (addD D i) (updl env r.ne vs) (upd β (nbOf σ out i) w.heap.size) (a.put r.dst v) (w.alloc (.cells (b.cont.den (updl env r.ne vs) β) b.ty)) := by
  obtain ⟨o, ho, f⟩ := R.F.get hr
  have hnew : isNew r = true := by simp [isNew, he]
  have hlater : ∀ (j : Nat) (r' : HR) (k' : Nat) (b' : Blk), out[j]? = some r' → D j = true → r'.eff = .set k' b' → k' ≠ nbOf σ out i := fun j r' k' b' hj hd he' => by
    obtain ⟨o', ho', f'⟩ := R.F.get hj
    exact ((f'.kB k' b' he').of (fun q hq => I.closed j q hd hq)).off hr hnew hD
  obtain ⟨m1, m2⟩ := minB_add_new (σ := σ) hD hr he hlater
  obtain ⟨n1, n2, n3, n4, n5, n6, n7, n8, n9⟩ := I.next R hr hD hbf hvs (β' := upd β (nbOf σ out i) w.heap.size) (fun k hk => ⟨hnew, Decidable.byContradiction fun hne => hk (upd_ne _ _ hne).symm⟩) (fun _ => by rw [upd_same]; exact hnb)
  have hwsz : w.heap.size ≤ (w.alloc (.cells (b.cont.den (updl env r.ne vs) β) b.ty)).heap.size := by simp
  have hse : env σ.sy.s = updl env r.ne vs σ.sy.s := (updl_lt _ _ _ _ (Nat.lt_of_lt_of_le (wf_parts R.wf).2.2.2.1 (R.F.ne_ge hr))).symm
  refine ⟨n1, n2, n3, n4, ?_, Nat.le_trans n8 hwsz, I.past1 R hr ho hse (fun k hk => n6 k (.inl hk)) (fun _ b hb => alloc_old w _ hb), fun j r' hd hj hef => ?_, by rw [put_defers]; exact I.defers, by rw [put_size]; exact I.size, ?_⟩
  · rw [m1, minY_add_soft hr (by simp [hard, he])]
    refine n5.fill G.fresh m2 (fun j b' hj c hc => ?_) (fun p hp => ?_) (fun j hj => ?_) hsz hcok hown (fun c hc => ?_)
    · exact ((blk_sup R I.closed hj).2.1 c hc).off hr hnew hD
    · have := wfG R.wf (g := p.1) (k := p.2) hp
      unfold nbOf; omega
    · exact ((y_sup R I.closed).2 j hj).off hr hnew hD
    · exact ((f.cB b (.inl he) c hc).of hbf).off hr hnew hD
  · have hji : j ≠ i := fun hji => by subst hji; rw [hr] at hj; cases hj; rw [he] at hef; cases hef
    exact Nat.le_trans (n9 j r' ((addD_or hd).resolve_right hji) hj hef) hwsz
  · exact frm_add R n7 I.size hr v ⟨fun _ => hv, fun h => absurd (by rw [hg]; exact conds_nil _ _) h⟩
/-- One operation of the head, where its nodes' conditions hold. -/
theorem op_step' (G : Good X A) (R : Reg X A ops bf σ env0 β0 out) {env : Env} {β : Nat → Nat} {a : Act} {w : World} (I : Inv X A ops bf σ env0 β0 out D env β a w) {o : Oper} (ho : ops.toList[i]? = some o) (hD : D i = false)
    (hbf : ∀ j, (bf.getD i 0).testBit j = true → D j = true) (hpre : ∀ r, out[i]? = some r → PreChain X β r.nds env r.ne) {K : Act → World → Prop} {Q : Exit → Act → World → Prop} (hK : ∀ env' β' a' w', (∀ e, SupE σ.ne out D e → env e = env' e) → (∀ k, SupB σ.blocks.length out D k → β k = β' k) → Inv X A ops bf σ env0 β0 out (addD D i) env' β' a' w' → K a' w') :
    if Region.wanted o (yielded ops a.tmps) then o.wp X.P a w K Q else K (a.put o.dst undef) w := by
  obtain ⟨r, hr, f⟩ := R.F.2 i o ho
  have hil := (List.getElem?_eq_some_iff.1 hr).1
  have hs : Sat X (headAt A ops bf σ out i r.ne o) env β a w := head_sat R I hD hbf r.ne ho hil
  have hwf : wf (headAt A ops bf σ out i r.ne o) = true := head_wf R hr o
  have hpre := hpre r hr
  obtain ⟨g, r0, hg, hr0, hmk⟩ := f.op
  have hlen := headAt_len (A := A) (ops := ops) (bf := bf) (σ := σ) (out := out) (i := i) r.ne o
  have hHne := headAt_ne (A := A) (ops := ops) (bf := bf) (σ := σ) (out := out) (i := i) r.ne o
  have hHs := f.s
  have hHb := headAt_blocks (A := A) (ops := ops) (bf := bf) (σ := σ) (out := out) (i := i) r.ne o
  have hblk : ∀ k b, (headAt A ops bf σ out i r.ne o).blocks[k]? = some (some b) → isMem A o = true ∧ (minB D 0 out σ.blocks)[k]? = some (some b) := fun k b h => head_blk R I.closed hD hbf ho h
  generalize hHdef : headAt A ops bf σ out i r.ne o = H at hs hwf hg hr0 hmk hlen hHne hblk hHs hHb
  have hrd : o.dst = r.dst := f.dst.symm
  have hsupE : ∀ (vs : List Val), vs.length = r.nds.length → ∀ e, SupE σ.ne out D e → env e = updl env r.ne vs e := fun vs hl e he => by
    have := he.off R.F hr hD
    rcases Nat.lt_or_ge e r.ne with h | h
    · rw [updl_lt _ _ _ _ h]
    · rw [updl_ge _ _ _ _ (by omega)]
  -- what is done and what is not
  have hgo : (conds env β g → o.wp X.P a w K Q) ∧ (g.isEmpty = false → ¬ conds env β g → K (a.put o.dst undef) w) := by
    rcases mkHR_inv hmk with ⟨s, hfin, hre⟩ | ⟨b, hfin, hgn, hnw, hre⟩ | ⟨b, len, hfin, hgn, hnw, hre⟩ | ⟨k, b, hfin, hgn, hst, hre⟩ | ⟨s, md, nd, hfin, hef, hmdd, hnd, hsync, hre⟩
    · -- a value
      have e1 : r.nds = gmap g r0.nds := by rw [hre]
      have e2 : r.slot = ⟨s, g⟩ := by rw [hre]
      have e3 : r.eff = .none := by rw [hre]
      have hnn : isNew r = false := by simp [isNew, e3]
      have hgE : ∀ e ∈ gE g, e < r.ne := fun e he => R.F.supE_lt hr (f.gE e (by rw [e2]; exact he))
      have hfinish : ∀ (vs : List Val) (w' : World) (v : Value), Chain X β (gmap g r0.nds) env r.ne vs → Below w.heap.size w w' →
          ((conds env β g → v = s.den (updl env r.ne vs) β) ∧ (¬ conds env β g → v = undef)) → K (a.put o.dst v) w' := fun vs w' v hv hb hvv => by
        rw [← e1] at hv
        obtain ⟨n1, n2, n3, n4, n5, n6, n7, n8, n9⟩ := I.next R hr hD hbf hv (β' := β) (fun k hk => absurd rfl hk) (fun h => by rw [hnn] at h; cases h)
        have hcc : conds (updl env r.ne vs) β g ↔ conds env β g := conds_congr (fun e he => updl_lt _ _ _ _ (hgE e he)) (fun _ _ => rfl)
        refine hK (updl env r.ne vs) β _ _ (hsupE vs hv.length) (fun _ _ => rfl) ⟨n1, n2, n3, n4, ?_, Nat.le_trans n8 hb.size, I.past1 R hr ho (hsupE vs hv.length _ (.inl (wf_parts R.wf).2.2.2.1)) (fun _ _ => rfl) (fun _ b hb' => hb.block b hb'), fun j r' hd hj hef => ?_, by rw [put_defers]; exact I.defers, by rw [put_size]; exact I.size, ?_⟩
        · rw [minB_add_none hr (.inl e3), minY_add_soft hr (by simp [hard, e3])]; exact n5.below G.fresh hb
        · have hji : j ≠ i := fun hji => by subst hji; rw [hr] at hj; cases hj; rw [e3] at hef; cases hef
          exact Nat.le_trans (n9 j r' ((addD_or hd).resolve_right hji) hj hef) hb.size
        · rw [hrd]
          exact frm_add R n7 I.size hr v (by rw [e2]; simp only; rw [hcc]; exact hvv)
      rw [e1] at hpre
      refine ⟨fun hc => ?_, fun hgn hc => ?_⟩
      · refine step_sound G hs hc hwf hr0 (by rw [hHne]; exact pre_guard hc hgE (fun _ _ => rfl) hpre) (hs.G G) ?_
        unfold After
        rw [hfin]
        simp only
        intro vs w' hv hb
        rw [hHne] at hv ⊢
        exact hfinish vs w' _ (chain_guard hc hgE (fun _ _ => rfl) hv) hb ⟨fun _ => rfl, fun h => absurd hc h⟩
      · exact hfinish _ w undef (chain_off hgn hc hgE (fun _ _ => rfl)) (Below.refl _ _) ⟨fun h => absurd h hc, fun _ => rfl⟩
    · -- a box
      subst hgn
      have e1 : r.nds = r0.nds := by rw [hre]
      have e2 : r.slot = ⟨.x (.p (nbOf σ out i) 0), []⟩ := by rw [hre, hlen]
      have e3 : r.eff = .new b := by rw [hre]
      rw [e1] at hpre
      refine ⟨fun hc => ?_, fun h => by simp at h⟩
      refine step_sound G hs hc hwf hr0 (by rw [hHne]; exact hpre) (hs.G G) ?_
      unfold After
      rw [hfin]
      simp only
      intro vs hv hsz hcok hown
      rw [hHne] at hv hsz hcok ⊢
      rw [← e1] at hv
      rw [hrd]
      exact hK _ _ _ _ (hsupE vs hv.length) (fun k hk => (upd_ne _ _ (hk.off hr (by simp [isNew, e3]) hD)).symm) (inv_new G R I hr hD hbf e3 (by rw [e2]) hv (by rw [hHs]; exact hs.mem.wksz) hsz hcok hown (by rw [e2]; simp [SV.den, At.den, upd_same]))
    · subst hgn
      have e1 : r.nds = r0.nds := by rw [hre]
      have e2 : r.slot = ⟨.x (.sl (nbOf σ out i) 0 len len), []⟩ := by rw [hre, hlen]
      have e3 : r.eff = .new b := by rw [hre]
      rw [e1] at hpre
      refine ⟨fun hc => ?_, fun h => by simp at h⟩
      refine step_sound G hs hc hwf hr0 (by rw [hHne]; exact hpre) (hs.G G) ?_
      unfold After
      rw [hfin]
      simp only
      intro vs hv hsz hcok hown
      rw [hHne] at hv hsz hcok ⊢
      rw [← e1] at hv
      rw [hrd]
      exact hK _ _ _ _ (hsupE vs hv.length) (fun k hk => (upd_ne _ _ (hk.off hr (by simp [isNew, e3]) hD)).symm) (inv_new G R I hr hD hbf e3 (by rw [e2]) hv (by rw [hHs]; exact hs.mem.wksz) hsz hcok hown (by rw [e2]; simp [SV.den, At.den, upd_same]))
    · -- a store
      subst hgn
      have e1 : r.nds = r0.nds := by rw [hre]
      have e2 : r.slot = ⟨.x (.c undef), []⟩ := by rw [hre]
      have e3 : r.eff = .set k b := by rw [hre]
      have hnn : isNew r = false := by simp [isNew, e3]
      rw [e1] at hpre
      refine ⟨fun hc => ?_, fun h => by simp at h⟩
      refine step_sound G hs hc hwf hr0 (by rw [hHne]; exact hpre) (hs.G G) ?_
      unfold After
      rw [hfin]
      simp only
      intro vs w' hv hsz hcok hex hset
      rw [hHne] at hv hsz hcok hset
      rw [← e1] at hv
      obtain ⟨b0, hb0, ho0, ho1, hty, hn⟩ := hex
      obtain ⟨hm, hb1⟩ := hblk k b0 hb0
      obtain ⟨n1, n2, n3, n4, n5, n6, n7, n8, n9⟩ := I.next R hr hD hbf hv (β' := β) (fun k hk => absurd rfl hk) (fun h => by rw [hnn] at h; cases h)
      have hwsz : w.heap.size ≤ w'.heap.size := by rw [hset.size]; exact Nat.le_refl _
      refine hK (updl env r.ne vs) β _ _ (hsupE vs hv.length) (fun _ _ => rfl) ⟨n1, n2, n3, n4, ?_, Nat.le_trans n8 hwsz, I.past1 R hr ho (hsupE vs hv.length _ (.inl (wf_parts R.wf).2.2.2.1)) (fun _ _ => rfl) (fun hh => by have h1 := (hh (by simp [hard, e3])).2; rw [isMd_store hst] at h1; cases h1), fun j r' hd hj hef => ?_, by rw [put_defers]; exact I.defers, by rw [put_size]; exact I.size, ?_⟩
      · rw [minB_add_set hD hr e3 (supB_lt (f.kB k b e3)) (fun j r' k' b' hij hj hd he' => by have := (no_later R I.closed hD ho hm (isLd_store hst) hj hd he').1; omega),
          minY_add_hard hr hD (fun j r' hij hj hd => by
            cases hh : hard r' with
            | false => rfl
            | true => have := (no_later' R I.closed hD ho (.inl hst) hj hd hh).1; omega)]
        have hyr : yR true (minY D 0 out σ.sy) r = ⟨(minY D 0 out σ.sy).live, (minY D 0 out σ.sy).s, k :: (minY D 0 out σ.sy).ow⟩ := by unfold yR; rw [e3]; simp
        rw [hyr]
        exact Mem.set n5 hb1 ho0 ho1 hsz hcok hset
      · have hji : j ≠ i := fun hji => by subst hji; rw [hr] at hj; cases hj; rw [e3] at hef; cases hef
        exact Nat.le_trans (n9 j r' ((addD_or hd).resolve_right hji) hj hef) hwsz
      · rw [hrd]
        exact frm_add R n7 I.size hr _ (by rw [e2]; exact ⟨fun _ => rfl, fun h => absurd (conds_nil _ _) h⟩)
    · -- an effect
      have e1 : r.nds = gmap g r0.nds := by rw [hre]
      have e2 : r.slot = ⟨s, g⟩ := by rw [hre]
      have e3 : r.eff = .eff := by rw [hre]
      have hnn : isNew r = false := by simp [isNew, e3]
      have hlen1 : r.nds.length = 1 := (f.isEf e3).2
      have hgE : ∀ e ∈ gE g, e < r.ne := fun e he => R.F.supE_lt hr (f.gE e (by rw [e2]; exact he))
      have hmem := isMem_of_eff hef
      have hyadd : minY (addD D i) 0 out σ.sy = yR true (minY D 0 out σ.sy) r := minY_add_hard hr hD (fun j r' hij hj hd => by
        cases hh : hard r' with
        | false => rfl
        | true => have := (no_later' R I.closed hD ho (.inr (.inl hef)) hj hd hh).1; omega)
      have hyr : yR true (minY D 0 out σ.sy) r = ⟨(minY D 0 out σ.sy).live, r.ne, if g.isEmpty then [] else (minY D 0 out σ.sy).ow⟩ := by unfold yR; rw [e3, e2, hlen1]; simp
      have hysame := headY_eq R I.closed hD hbf ho (.inr (.inl hef)) hil
      have hHsy : H.sy.s = (minY D 0 out σ.sy).s := by rw [← hysame, ← hHdef, headAt_sy]
      have hfinish : ∀ (vs : List Val) (w' : World) (v : Value), Chain X β (gmap g r0.nds) env r.ne vs → w.heap.size ≤ w'.heap.size → (updl env r.ne vs r.ne).2.heap.size ≤ w'.heap.size → (isMd A o = false → ∀ b, b < w.heap.size → w'.heap[b]? = w.heap[b]?) →
          (Mem X (minY D 0 out σ.sy) (minB D 0 out σ.blocks) σ.gl (updl env r.ne vs) β w → Mem X ⟨(minY D 0 out σ.sy).live, r.ne, if g.isEmpty then [] else (minY D 0 out σ.sy).ow⟩ (minB D 0 out σ.blocks) σ.gl (updl env r.ne vs) β w') →
          ((conds env β g → v = s.den (updl env r.ne vs) β) ∧ (¬ conds env β g → v = undef)) → K (a.put o.dst v) w' := fun vs w' v hv hsz hsz2 hpp hmm hvv => by
        rw [← e1] at hv
        obtain ⟨n1, n2, n3, n4, n5, n6, n7, n8, n9⟩ := I.next R hr hD hbf hv (β' := β) (fun k hk => absurd rfl hk) (fun h => by rw [hnn] at h; cases h)
        have hcc : conds (updl env r.ne vs) β g ↔ conds env β g := conds_congr (fun e he => updl_lt _ _ _ _ (hgE e he)) (fun _ _ => rfl)
        refine hK (updl env r.ne vs) β _ _ (hsupE vs hv.length) (fun _ _ => rfl) ⟨n1, n2, n3, n4, ?_, Nat.le_trans n8 hsz, I.past1 R hr ho (hsupE vs hv.length _ (.inl (wf_parts R.wf).2.2.2.1)) (fun _ _ => rfl) (fun hh => hpp (hh (by simp [hard, e3])).2), fun j r' hd hj hef => ?_, by rw [put_defers]; exact I.defers, by rw [put_size]; exact I.size, ?_⟩
        · rw [minB_add_none hr (.inr e3), hyadd, hyr]; exact hmm n5
        · rcases addD_or hd with hd | hji
          · exact Nat.le_trans (n9 j r' hd hj hef) hsz
          · subst hji; rw [hr] at hj; cases hj; exact hsz2
        · rw [hrd]
          exact frm_add R n7 I.size hr v (by rw [e2]; simp only; rw [hcc]; exact hvv)
      rw [e1] at hpre
      refine ⟨fun hc => ?_, fun hgn hc => ?_⟩
      · refine step_sound G hs hc hwf hr0 (by rw [hHne]; exact pre_guard hc hgE (fun _ _ => rfl) hpre) (hs.G G) ?_
        unfold After
        rw [hfin]
        simp only
        intro vs w' hv hpos hw hk
        rw [hHne] at hv hw ⊢
        have hl1 : r0.nds.length = 1 := by rw [hnd]; rfl
        rw [hl1, Nat.add_sub_cancel] at hw
        refine hfinish vs w' _ (chain_guard hc hgE (fun _ _ => rfl) hv) hk.size (by rw [hw]; exact Nat.le_refl _) (fun hmf b hb => hk.block b hb fun hmt => by rw [hmdd hmt] at hmf; cases hmf) (fun hm5 => ?_) ⟨fun _ => rfl, fun h => absurd hc h⟩
        refine hm5.eff G.fresh hk (fun hmd k b hkb => ?_) hw _ _
        -- a block that is known is among those that the effect leaves
        have hnew := f.md e3 (hmdd hmd)
        have hrel : ∀ (j : Nat) (r' : HR), out[j]? = some r' → D j = true → (isNew r' = true ∨ ∃ k b, r'.eff = .set k b) → j < i ∧ (bf.getD i 0).testBit j = true := fun j r' hj hd hh => by
          rcases hh with hh | ⟨k, b, hh⟩
          · obtain ⟨o', ho', f'⟩ := R.F.get hj
            exact ordered_lt R I.closed hD hd (newOrd_spec hnew ho' (f'.isNw hh) (fun hji => by subst hji; rw [hD] at hd; cases hd))
          · exact no_later R I.closed hD ho hmem (isLd_eff hef) hj hd hh
        have hsplit : out = out.take i ++ out.drop i := (List.take_append_drop i out).symm
        have hitl : (out.take i).length = i := by simp; omega
        have hk1 : (minB D 0 (out.take i) σ.blocks)[k]? = some (some b) := by
          rw [hsplit, minB_append, hitl] at hkb
          rcases minB_mem _ _ _ hkb with h | ⟨j, r', hj, hd, hh⟩
          · exact h
          · rw [List.getElem?_drop] at hj
            rw [Nat.zero_add] at hd
            have := (hrel (i + j) r' hj hd (by
              rcases hh with ⟨h, _⟩ | h
              · exact .inl (by simp [isNew, h])
              · exact .inr ⟨_, _, h⟩)).1
            omega
        have hk2 : minB D 0 (out.take i) σ.blocks = minB (bf.getD i 0).testBit 0 (out.take i) σ.blocks := minB_same _ _ _ fun j r' hj hh => by
          rw [Nat.zero_add]
          cases hd : D j with
          | true => exact (hrel j r' (take_some hj).1 hd hh).2.symm
          | false =>
            cases hb : (bf.getD i 0).testBit j with
            | false => rfl
            | true => rw [hbf j hb] at hd; cases hd
        rw [hk2] at hk1
        rw [hHb, if_pos hmem]
        exact List.mem_map.2 ⟨(k, b), by simpa using knownBl_mem _ 0 k b hk1, rfl⟩
      · have hlv := chain_off (X := X) (ns := r0.nds) hgn hc hgE (fun _ _ => rfl)
        have hoff : (updl env r.ne (offVals X r0.nds env r.ne) r.ne).2 = (env (minY D 0 out σ.sy).s).2 := by
          rw [hnd]
          simp only [offVals, updl, offVal, hsync, upd_same]
          rw [hHsy]
        have hlts : (updl env r.ne (offVals X r0.nds env r.ne)) (minY D 0 out σ.sy).s = env (minY D 0 out σ.sy).s := by
          have h1 := hsupE _ (by rw [hlv.length, e1]) _ (y_sup R I.closed).1
          exact h1.symm
        refine hfinish _ w undef hlv (Nat.le_refl _) (by rw [hoff]; exact I.mem.wksz) (fun _ _ _ => rfl) (fun hm5 => ?_) ⟨fun h => absurd h hc, fun _ => rfl⟩
        rw [if_neg (by rw [hgn]; simp)]
        exact hm5.resync (by rw [hoff, hlts])
  unfold guardOf at hg
  cases hgd : o.guard with
  | none =>
    simp only [hgd, Option.some.injEq] at hg
    subst hg
    have hw : Region.wanted o (yielded ops a.tmps) = true := by simp [Region.wanted, hgd]
    rw [if_pos hw]
    exact hgo.1 (conds_nil _ _)
  | some jw =>
    obtain ⟨j, want⟩ := jw
    simp only [hgd, Option.bind_eq_bind] at hg
    have hwant : Region.wanted o (yielded ops a.tmps) = (yielded ops a.tmps j == some want) := by simp [Region.wanted, hgd]
    rw [hwant]
    cases hd : (ops[j]?).bind (·.dst) with
    | none => rw [hd] at hg; cases hg
    | some d =>
    rw [hd] at hg
    simp only [Option.bind_some] at hg
    have hy : yielded ops a.tmps j = match a.tmps[d]? with | some (.bool b) => some b | _ => none := by
      unfold yielded; rw [hd]; rfl
    rw [hy]
    cases hsl : H.slots[d]? with
    | none => rw [hsl] at hg; cases hg
    | some sl =>
    rw [hsl] at hg
    simp only [Option.bind_some] at hg
    split at hg
    · rename_i q g0
      simp only [Option.some.injEq] at hg
      subst hg
      obtain ⟨h1, h2⟩ := hs.slot d _ hsl rfl
      have hne : (g0 ++ [(At.v q, want)]).isEmpty = false := by cases g0 <;> rfl
      by_cases hc : conds env β g0
      · have ht := h1 hc
        simp only [SV.den, At.den] at ht
        rw [ht]
        by_cases hb : (env q).1 = .bool want
        · rw [hb]
          simp only [beq_self_eq_true, if_true]
          exact hgo.1 (conds_iff.2 fun x hx => by
            rcases List.mem_append.1 hx with hx | hx
            · exact conds_iff.1 hc x hx
            · simp at hx; subst hx; exact hb)
        · rw [if_neg (by
            intro h
            cases he : (env q).1 with
            | bool b => rw [he] at h; simp at h; subst h; exact hb he
            | _ => rw [he] at h; simp at h)]
          exact hgo.2 hne (fun h => hb (conds_iff.1 h (.v q, want) (by simp)))
      · have ht := h2 hc
        rw [ht]
        rw [if_neg (by simp [undef])]
        exact hgo.2 hne (fun h => hc (conds_iff.2 fun x hx => conds_iff.1 h x (by simp [hx])))
    · cases hg
/-- An operation that goes through has something behind it. -/
theorem wp_ex {P : Program} {o : Oper} {a : Act} {w : World} {K : Act → World → Prop} (h : o.wp P a w K (fun _ _ _ => False)) : ∃ a' w', K a' w' := by
  unfold Oper.wp at h
  generalize (execOp a.eval o).run P w = res at h
  cases res with
  | ok n w' =>
    cases n with
    | value v => exact ⟨_, _, h⟩
    | skip => exact ⟨_, _, h⟩
    | defer d => exact ⟨_, _, h⟩
    | enter f args =>
      obtain ⟨e, w'', fr, hR, _⟩ := h []
      cases e with
      | returned v => exact ⟨_, _, hR⟩
      | panicked c => exact hR.elim
      | outgrown => obtain ⟨_, _, hf⟩ := hR; exact hf.elim
    | row row args =>
      obtain ⟨v, w'', hR, _⟩ := h (Frame.ofRow P row args .normal) []
      exact ⟨_, _, hR⟩
    | _ => simp only [Oper.upon] at h
  | halt x w' => cases x <;> simp only [Oper.upon] at h
/-- What has to hold ahead of an operation whose turn it may be. -/
theorem ready_pre (G : Good X A) (R : Reg X A ops bf σ env0 β0 out) {env : Env} {β : Nat → Nat} {a : Act} {w : World} (I : Inv X A ops bf σ env0 β0 out D env β a w) {i : Nat} {r : HR} (hi : out[i]? = some r) (hbf : ∀ j, (bf.getD i 0).testBit j = true → D j = true) :
    PreChain X β r.nds env r.ne := by
  have key : ∀ m, ∃ D' env' β' a' w', (∀ j, D j = true → D' j = true) ∧ (∀ j, j < m → j < out.length → D' j = true) ∧ (∀ e, SupE σ.ne out D e → env e = env' e) ∧ (∀ k, SupB σ.blocks.length out D k → β k = β' k) ∧ Inv X A ops bf σ env0 β0 out D' env' β' a' w' := by
    intro m
    induction m with
    | zero => exact ⟨D, env, β, a, w, fun _ h => h, fun j h => by omega, fun _ _ => rfl, fun _ _ => rfl, I⟩
    | succ m ih =>
      obtain ⟨D', env', β', a', w', h1, h2, h3, h4, I'⟩ := ih
      by_cases hm : D' m = true
      · refine ⟨D', env', β', a', w', h1, fun j hj hl => ?_, h3, h4, I'⟩
        rcases Nat.lt_or_ge j m with h | h
        · exact h2 j h hl
        · have : j = m := by omega
          subst this; exact hm
      · have hm' : D' m = false := by simpa using hm
        rcases Nat.lt_or_ge m out.length with hml | hml
        · have hmo : m < ops.toList.length := by rw [← R.F.1]; exact hml
          have ho : ops.toList[m]? = some ops.toList[m] := List.getElem?_eq_getElem hmo
          have hstep := op_step' G R I' ho hm' (fun j hj => h2 j (by
              rcases Nat.lt_or_ge j m with h' | h'
              · exact h'
              · have := R.lt m
                rw [Nat.testBit_lt_two_pow (Nat.lt_of_lt_of_le this (Nat.pow_le_pow_right (by omega) h'))] at hj
                cases hj) (by
              rcases Nat.lt_or_ge j m with h' | h'
              · omega
              · have := R.lt m
                rw [Nat.testBit_lt_two_pow (Nat.lt_of_lt_of_le this (Nat.pow_le_pow_right (by omega) h'))] at hj
                cases hj))
            (fun r' hr' => R.pre env' β' I'.baseE I'.baseB m r' hr' (fun j' r'' hj' hr'' => I'.ok j' r'' (h2 j' hj' (List.getElem?_eq_some_iff.1 hr'').1) hr''))
            (K := fun a'' w'' => ∃ env'' β'', (∀ e, SupE σ.ne out D' e → env' e = env'' e) ∧ (∀ k, SupB σ.blocks.length out D' k → β' k = β'' k) ∧ Inv X A ops bf σ env0 β0 out (addD D' m) env'' β'' a'' w'')
            (Q := fun _ _ _ => False) (fun env'' β'' a'' w'' e1 e2 I'' => ⟨env'', β'', e1, e2, I''⟩)
          have hex : ∃ a'' w'' env'' β'', (∀ e, SupE σ.ne out D' e → env' e = env'' e) ∧ (∀ k, SupB σ.blocks.length out D' k → β' k = β'' k) ∧ Inv X A ops bf σ env0 β0 out (addD D' m) env'' β'' a'' w'' := by
            split at hstep
            · obtain ⟨a'', w'', env'', β'', h⟩ := wp_ex hstep; exact ⟨a'', w'', env'', β'', h⟩
            · obtain ⟨env'', β'', h⟩ := hstep; exact ⟨_, _, env'', β'', h⟩
          obtain ⟨a'', w'', env'', β'', e1, e2, I''⟩ := hex
          have supE : ∀ e, SupE σ.ne out D e → SupE σ.ne out D' e := fun e he => by
            rcases he with h | ⟨j, r, hj, hd, h⟩
            · exact .inl h
            · exact .inr ⟨j, r, hj, h1 j hd, h⟩
          have supB : ∀ e, SupB σ.blocks.length out D e → SupB σ.blocks.length out D' e := fun e he => by
            rcases he with h | ⟨j, r, hj, hd, h⟩
            · exact .inl h
            · exact .inr ⟨j, r, hj, h1 j hd, h⟩
          refine ⟨addD D' m, env'', β'', a'', w'', fun j hd => addD_of (h1 j hd), fun j hj hl => ?_, fun e he => (h3 e he).trans (e1 e (supE e he)), fun k hk => (h4 k hk).trans (e2 k (supB k hk)), I''⟩
          rcases Nat.lt_or_ge j m with h | h
          · exact addD_of (h2 j h hl)
          · have : j = m := by omega
            subst this; exact addD_self D' j
        · refine ⟨D', env', β', a', w', h1, fun j hj hl => h2 j (by omega) hl, h3, h4, I'⟩
  obtain ⟨D', env', β', a', w', h1, h2, h3, h4, I'⟩ := key i
  obtain ⟨o, ho, f⟩ := R.F.get hi
  have hp := R.pre env' β' I'.baseE I'.baseB i r hi (fun j' r'' hj' hr'' => I'.ok j' r'' (h2 j' hj' (List.getElem?_eq_some_iff.1 hr'').1) hr'')
  exact PreChain.congr (ne := r.ne) (j := 0) (fun b hb => (h4 b (hb.of hbf)).symm) f.nds (fun e he => (h3 e (he.of hbf)).symm) (fun e g1 g2 => by omega) hp
/-- One operation of the head. -/
theorem op_step (G : Good X A) (R : Reg X A ops bf σ env0 β0 out) {env : Env} {β : Nat → Nat} {a : Act} {w : World} (I : Inv X A ops bf σ env0 β0 out D env β a w) {o : Oper} (ho : ops.toList[i]? = some o) (hD : D i = false)
    (hbf : ∀ j, (bf.getD i 0).testBit j = true → D j = true) {K : Act → World → Prop} {Q : Exit → Act → World → Prop} (hK : ∀ env' β' a' w', Inv X A ops bf σ env0 β0 out (addD D i) env' β' a' w' → K a' w') :
    if Region.wanted o (yielded ops a.tmps) then o.wp X.P a w K Q else K (a.put o.dst undef) w :=
  op_step' G R I ho hD hbf (fun _ hr => ready_pre G R I hr hbf) fun env' β' a' w' _ _ I' => hK env' β' a' w' I'
end
section
variable {X : Ctx} {A : Ann} {σ : St} {env : Env} {β : Nat → Nat} {a : Act} {w : World} {ls : Nat → List Value → World → Prop}
/-- The whole head, in whatever order. -/
theorem any_sound (G : Good X A) {ops : Array Oper} {out : List HR} {env0 : Env} {β0 : Nat → Nat} (R : Reg X A ops (bfOf ops.toList []) σ env0 β0 out) {Q : Exit → Act → World → Prop}
    (hfin : ∀ D env β a w, (∀ i, i < ops.size → D i = true) → Inv X A ops (bfOf ops.toList []) σ env0 β0 out D env β a w → Q .normal a w) :
    ∀ (fuel : Nat) (listed : Array Bool) (env : Env) (β : Nat → Nat) (a : Act) (w : World), listed.size = ops.size → (listed.toList.filter (! ·)).length ≤ fuel →
      Inv X A ops (bfOf ops.toList []) σ env0 β0 out (fun i => listed.getD i false) env β a w → wpAny X.P .any ops Q fuel listed a w := by
  have hdone : ∀ (listed : Array Bool) (env : Env) (β : Nat → Nat) (a : Act) (w : World), listed.size = ops.size → Inv X A ops (bfOf ops.toList []) σ env0 β0 out (fun i => listed.getD i false) env β a w →
      Region.ready .any ops listed = [] → Q .normal a w := by
    intro listed env β a w hsz I hr
    refine hfin _ env β a w (fun i hi => ?_) I
    -- the least that is not done is ready
    induction i using Nat.strongRecOn with
    | _ i ih =>
      cases hd : listed.getD i false with
      | true => rfl
      | false =>
        exfalso
        have ho : ops[i]? = some ops[i] := Array.getElem?_eq_getElem hi
        have hol : ops.toList[i]? = some ops[i] := by rw [Array.getElem?_toList]; exact ho
        have hmem : i ∈ Region.ready .any ops listed := by
          rw [mem_ready]
          refine ⟨?_, ops[i], ho, fun e he hb => ?_⟩
          · rw [Array.getD_eq_getD_getElem?] at hd ⊢
            rw [Array.getElem?_eq_getElem (by omega)] at hd ⊢
            exact hd
          · have h1 := bf_fwd hol (e := e) (by simpa using he) hb
            have h2 : e.on < i := by
              rcases Nat.lt_or_ge e.on i with h' | h'
              · exact h'
              · have := R.lt i
                rw [Nat.testBit_lt_two_pow (Nat.lt_of_lt_of_le this (Nat.pow_le_pow_right (by omega) h'))] at h1
                cases h1
            exact ih e.on h2 (by omega)
        rw [hr] at hmem
        cases hmem
  intro fuel
  induction fuel with
  | zero =>
    intro listed env β a w hsz hfu I
    have hnil : Region.ready .any ops listed = [] := by
      apply List.eq_nil_iff_forall_not_mem.2
      intro i hi
      obtain ⟨h0, o, ho, _⟩ := mem_ready.1 hi
      have hlt : i < listed.size := by rw [hsz]; exact (Array.getElem?_eq_some_iff.1 ho).1
      have h1 : listed.toList.filter (! ·) = [] := List.eq_nil_of_length_eq_zero (by omega)
      rw [List.filter_eq_nil_iff] at h1
      have := h1 (listed[i]) (by simp)
      rw [Array.getD_eq_getD_getElem?, Array.getElem?_eq_getElem hlt] at h0
      simp at h0
      simp [h0] at this
    exact ⟨hnil, hdone listed env β a w hsz I hnil⟩
  | succ fuel ih =>
    intro listed env β a w hsz hfu I
    refine ⟨hdone listed env β a w hsz I, fun i hi => ?_⟩
    obtain ⟨h0, o, ho, hall⟩ := mem_ready.1 hi
    have hio : i < ops.size := (Array.getElem?_eq_some_iff.1 ho).1
    have hlt : i < listed.size := by omega
    have hli : listed[i] = false := by
      rw [Array.getD_eq_getD_getElem?, Array.getElem?_eq_getElem hlt] at h0
      simpa using h0
    have hol : ops.toList[i]? = some o := by rw [Array.getElem?_toList]; exact ho
    have hD : listed.getD i false = false := by
      rw [Array.getD_eq_getD_getElem?, Array.getElem?_eq_getElem hlt]; simpa using hli
    refine wpOp_step ho fun K' hK' => ?_
    refine op_step G R I hol hD (fun j hj => ?_) (fun env' β' a' w' I' => hK' _ _ (ih _ env' β' a' w' (by simp [hsz]) ?_ ?_))
    · obtain ⟨e, he, hb, hor⟩ := bf_bwd hol hj
      have := hall e (by simpa using he) hb
      rcases hor with h | h
      · rw [h]; exact this
      · exact I.closed e.on j this h
    · have key : ∀ (l : List Bool) (i : Nat) (h : i < l.length), l[i] = false → ((l.set i true).filter (! ·)).length + 1 = (l.filter (! ·)).length := by
        intro l
        induction l with
        | nil => intro i h; simp at h
        | cons b l ih =>
          intro i h hb
          cases i with
          | zero => simp at hb; subst hb; simp
          | succ i =>
            simp only [List.set_cons_succ]
            have := ih i (by simpa using h) (by simpa using hb)
            cases b <;> simp <;> simpa using this
      have := key listed.toList i (by simpa using hlt) (by simpa using hli)
      rw [Array.setIfInBounds_def]
      rw [dif_pos hlt]
      simp only [Array.toList_set]
      omega
    · have : (fun j => (listed.setIfInBounds i true).getD j false) = addD (fun j => listed.getD j false) i := by
        funext j
        simp only [addD]
        rw [Array.getD_eq_getD_getElem?, Array.getD_eq_getD_getElem?, Array.getElem?_setIfInBounds]
        by_cases hji : i = j
        · subst hji; simp [hlt]
        · simp [hji, Ne.symm hji]
      rw [this]; exact I'
theorem execDraw1_sound (G : Good X A) {ops : Array Oper} {Q : Exit → Act → World → Prop} {K : St → T} {K' : Act → World → Prop} (hwf : wf σ = true) (hs : Sat X σ env β a w)
    (hden : (execDraw1 X.P A ops σ K).den X env σ.ne β σ.blocks.length ls) (hK : Cont' X σ env β ls K K') (hQ : ∀ a w, K' a w → Q .normal a w) : wpAny X.P .any ops Q ops.size (Array.replicate ops.size false) a { w with drawn := w.drawn + 1 } := by
  unfold execDraw1 at hden
  simp only at hden
  split at hden
  · simp only [T.den] at hden
  rename_i hchk
  simp only [Bool.not_eq_true', Bool.not_eq_false, Bool.and_eq_true] at hchk
  obtain ⟨⟨⟨c1, c2⟩, c3⟩, c4⟩ := hchk
  split at hden
  · simp only [T.den] at hden
  rename_i out hout
  split at hden
  · simp only [T.den] at hden
  rename_i hld
  simp only [Bool.not_eq_true', Bool.not_eq_false] at hld
  have hz : σ.ne = σ.ne + cntNe [] := by simp [cntNe]
  have hz' : σ.blocks.length = σ.blocks.length + cntNew [] := by simp [cntNew]
  have hout0 := hout
  rw [hz] at hout0
  obtain ⟨_, hlen, hfacts⟩ := headList_spec ops.toList 0 [] rfl hout0
  have F : Facts X A ops (bfOf ops.toList []) σ out := ⟨by simpa using hlen, fun i o hi => by simpa using hfacts i o hi⟩
  have hdyn := chain_dyn F out [] env β (by simp) (by rw [← hz, ← hz']; exact hden)
  have R : Reg X A ops (bfOf ops.toList []) σ env β out := {
    F := F, wf := hwf
    dist := distinct_spec _ c1
    lt := fun i => by simpa using okBf_lt _ _ 0 c2 i
    mem := fun i j o o' hi hj h1 h2 h3 h4 h5 => memOk_spec c4 hi hj h1 h2 h3 h4 h5
    ld := fun i j o r k b hj h1 hi he hij => ldOk_spec hld hj h1 hi he hij
    pre := fun env' β' he hb j r hj hok => (hdyn env' β' (fun e h => he e (by rw [← hz] at h; exact h)) (fun k h => hb k (by rw [← hz'] at h; exact h))).1 j r (Nat.zero_le _) hj (fun j' r' _ h2 h3 => hok j' r' h2 h3) }
  have hs' : Sat X σ env β a { w with drawn := w.drawn + 1 } := ⟨hs.mem.below G.fresh (below_drew w), hs.defers, hs.size, hs.slot⟩
  refine any_sound G R (fun D env' β' a' w' hall I => ?_) ops.size _ env β a _ (by simp) (by simp) ?_
  · -- all is done
    apply hQ
    have hoks : ∀ (j : Nat) (r : HR), 0 ≤ j → out[j]? = some r → Okk X σ out env' β' j r := fun j r _ hj => by
      refine I.ok j r (hall j ?_) hj
      have := (List.getElem?_eq_some_iff.1 hj).1
      rw [F.1] at this
      simpa using this
    obtain ⟨envf, βf, e1, e2, e3⟩ := (hdyn env' β' (fun e h => I.baseE e (by rw [← hz] at h; exact h)) (fun k h => I.baseB k (by rw [← hz'] at h; exact h))).2 hoks
    have hDall : ∀ j, 0 ≤ j → j < 0 + out.length → D j = (fun _ => true) j := fun j _ hj => by
      rw [F.1] at hj
      exact hall j (by simpa using hj)
    have hsl : minS D 0 out σ.slots = minS (fun _ => true) 0 out σ.slots := minS_congr out 0 _ hDall
    have hbl : minB D 0 out σ.blocks = minB (fun _ => true) 0 out σ.blocks := minB_congr out 0 _ hDall
    have hyl : minY D 0 out σ.sy = minY (fun _ => true) 0 out σ.sy := minY_congr out 0 _ hDall
    have hst : ({ minSt (fun _ => true) 0 out σ with ne := σ.ne + cntNe out } : St) = ⟨minS D 0 out σ.slots, minB D 0 out σ.blocks, σ.gl, σ.ne + cntNe out, minY D 0 out σ.sy⟩ := by
      rw [minSt_eq, hsl, hbl, hyl]
    rw [hst] at e3
    have hblen : (minB D 0 out σ.blocks).length = σ.blocks.length + cntNew out := minB_len _ _ _ _
    have supE : ∀ e, SupE σ.ne out D e → e < σ.ne + cntNe out := fun e he => by
      rcases he with h | ⟨j, r, hj, _, h1, h2⟩
      · omega
      · obtain ⟨_, _, f⟩ := F.get hj
        have h3 := cntNe_lt hj (List.getElem?_eq_some_iff.1 hj).1
        rw [List.take_of_length_le (Nat.le_refl _)] at h3
        have := f.ne
        omega
    have supB : ∀ k, SupB σ.blocks.length out D k → k < σ.blocks.length + cntNew out := fun k hk => by
      rcases hk with h | ⟨j, r, hj, _, h1, h2⟩
      · omega
      · have h3 := cntNew_lt hj h1 (List.getElem?_eq_some_iff.1 hj).1
        rw [List.take_of_length_le (Nat.le_refl _)] at h3
        omega
    have hwf2 : wf ⟨minS D 0 out σ.slots, minB D 0 out σ.blocks, σ.gl, σ.ne + cntNe out, minY D 0 out σ.sy⟩ = true := by
      refine wf_mk (fun s hs => ?_) (fun b hb => ?_) (fun p hp => ?_) (supE _ (y_sup R I.closed).1) (fun k hk => by rw [hblen]; exact supB _ ((y_sup R I.closed).2 k hk))
      · obtain ⟨t, ht⟩ := List.getElem?_of_mem hs
        obtain ⟨s1, s2, s3, s4⟩ := slot_sup R I.closed ht
        rw [hblen]
        simp only [okSlot, okE, okG, Bool.and_eq_true, List.all_eq_true, decide_eq_true_eq]
        exact ⟨⟨fun e he => supE e (s1 e he), fun b hb => supB b (s2 b hb)⟩, fun e he => supE e (s3 e he), fun b hb => supB b (s4 b hb)⟩
      · rw [hblen]
        cases b with
        | none => rfl
        | some b =>
          obtain ⟨k, hk⟩ := List.getElem?_of_mem hb
          obtain ⟨s1, s2, _⟩ := blk_sup R I.closed hk
          simp only [okB, okC, Bool.and_eq_true, List.all_eq_true, decide_eq_true_eq]
          exact ⟨fun e he => supE e (s1 e he), fun c hc => supB c (s2 c hc)⟩
      · rw [hblen]
        have := (wf_parts hwf).2.2.1 p hp
        omega
    have hsatI : Sat X ⟨minS D 0 out σ.slots, minB D 0 out σ.blocks, σ.gl, σ.ne + cntNe out, minY D 0 out σ.sy⟩ env' β' a' w' := ⟨I.mem, I.defers, by rw [minS_len]; exact I.size, I.frm⟩
    have hsatF := hsatI.congr (env' := envf) (β' := βf) hwf2 (fun e he => e1 e he) (fun k hk => e2 k (by simp only [hblen] at hk; exact hk)) (σ.ne + cntNe out)
    refine hK _ envf βf a' w' hwf2 hsatF ⟨Nat.le_add_right _ _, by simp only [hblen]; exact Nat.le_add_right _ _, fun e he => (e1 e (by omega)).trans (I.baseE e he).symm, fun b hb => (e2 b (by omega)).trans (I.baseB b hb).symm⟩ ?_
    simp only [hblen]
    exact e3
  · -- none is done
    have hfalse : (fun i => (Array.replicate ops.size false).getD i false) = fun _ => false := by
      funext i
      rw [Array.getD_eq_getD_getElem?, Array.getElem?_replicate]
      split <;> rfl
    rw [hfalse]
    have hS : minS (fun _ => false) 0 out σ.slots = σ.slots := by
      apply List.ext_getElem?
      intro t
      rw [minS_miss]
      intro j r _ hd
      cases hd
    have hY : minY (fun _ => false) 0 out σ.sy = σ.sy := minY_nil _ _ _ fun _ _ _ _ => rfl
    refine ⟨fun i j h _ => (by cases h), fun _ _ => rfl, fun _ _ => rfl, fun j r h _ => (by cases h), ?_, hs'.mem.wksz, fun hl _ => hs'.mem.past hl, fun j r h _ _ => (by cases h), hs'.defers, hs'.size, by rw [hS]; exact hs'.slot⟩
    refine hs'.mem.sub (fun k b hk => ?_) (fun hl => by rw [hY] at hl ⊢; exact ⟨hl, rfl, rfl⟩) (by rw [hY]; exact hs'.mem.wksz)
    rcases minB_mem out 0 _ hk with h | ⟨j, r, _, hd, _⟩
    · exact h
    · cases hd
end
end Go.Vc
