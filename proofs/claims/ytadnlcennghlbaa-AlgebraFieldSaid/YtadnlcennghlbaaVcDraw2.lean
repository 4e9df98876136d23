/-
  The engine is sound, part 8b: what the tree of such a head says of each operation.
-/
import Derived.Test.YtadnlcennghlbaaVcDraw1
namespace Go.Vc
open Go Go.RowKit
def SupE (ne0 : Nat) (rs : List HR) (D : Nat → Bool) (e : Nat) : Prop := e < ne0 ∨ ∃ j r, rs[j]? = some r ∧ D j = true ∧ r.ne ≤ e ∧ e < r.ne + r.nds.length
def SupB (nb0 : Nat) (rs : List HR) (D : Nat → Bool) (k : Nat) : Prop := k < nb0 ∨ ∃ j r, rs[j]? = some r ∧ D j = true ∧ isNew r = true ∧ k = nb0 + cntNew (rs.take j)
theorem allowE_sup {ne0 : Nat} {D : Nat → Bool} {e : Nat} : ∀ (rs : List HR) (i : Nat), allowE ne0 D e i rs = true → e < ne0 ∨ ∃ j r, rs[j]? = some r ∧ D (i + j) = true ∧ r.ne ≤ e ∧ e < r.ne + r.nds.length
  | [], i, h => by simp only [allowE, decide_eq_true_eq] at h; exact .inl h
  | r :: rs, i, h => by
    simp only [allowE, Bool.or_eq_true, Bool.and_eq_true, decide_eq_true_eq] at h
    rcases h with h | h
    · exact .inr ⟨0, r, rfl, by simpa using h.1.1, h.1.2, h.2⟩
    · rcases allowE_sup rs (i + 1) h with h1 | ⟨j, r', h1, h2, h3⟩
      · exact .inl h1
      · exact .inr ⟨j + 1, r', by simpa using h1, by rw [show i + (j + 1) = i + 1 + j from by omega]; exact h2, h3⟩
theorem allowB_sup {D : Nat → Bool} {k : Nat} : ∀ (rs : List HR) (nb i : Nat), allowB D k nb i rs = true → ∃ j r, rs[j]? = some r ∧ D (i + j) = true ∧ isNew r = true ∧ k = nb + cntNew (rs.take j)
  | [], nb, i, h => by simp [allowB] at h
  | r :: rs, nb, i, h => by
    simp only [allowB] at h
    cases he : r.eff with
    | new b =>
      simp only [he, Bool.or_eq_true, Bool.and_eq_true, beq_iff_eq] at h
      rcases h with h | h
      · exact ⟨0, r, rfl, by simpa using h.1, by simp [isNew, he], by simp [cntNew]; exact h.2⟩
      · obtain ⟨j, r', h1, h2, h3, h4⟩ := allowB_sup rs (nb + 1) (i + 1) h
        refine ⟨j + 1, r', by simpa using h1, by rw [show i + (j + 1) = i + 1 + j from by omega]; exact h2, h3, ?_⟩
        rw [h4, List.take_succ_cons, cntNew_cons]
        simp [isNew, he]; omega
    | none =>
      simp only [he] at h
      obtain ⟨j, r', h1, h2, h3, h4⟩ := allowB_sup rs nb (i + 1) h
      refine ⟨j + 1, r', by simpa using h1, by rw [show i + (j + 1) = i + 1 + j from by omega]; exact h2, h3, ?_⟩
      rw [h4, List.take_succ_cons, cntNew_cons]
      simp [isNew, he]
    | eff =>
      simp only [he] at h
      obtain ⟨j, r', h1, h2, h3, h4⟩ := allowB_sup rs nb (i + 1) h
      refine ⟨j + 1, r', by simpa using h1, by rw [show i + (j + 1) = i + 1 + j from by omega]; exact h2, h3, ?_⟩
      rw [h4, List.take_succ_cons, cntNew_cons]
      simp [isNew, he]
    | set k' b =>
      simp only [he] at h
      obtain ⟨j, r', h1, h2, h3, h4⟩ := allowB_sup rs nb (i + 1) h
      refine ⟨j + 1, r', by simpa using h1, by rw [show i + (j + 1) = i + 1 + j from by omega]; exact h2, h3, ?_⟩
      rw [h4, List.take_succ_cons, cntNew_cons]
      simp [isNew, he]
theorem take_some {α : Type} {l : List α} {i j : Nat} {x : α} (h : (l.take i)[j]? = some x) : l[j]? = some x ∧ j < i := by
  rw [List.getElem?_take] at h
  split at h
  · exact ⟨h, by assumption⟩
  · cases h
theorem SupE.take {ne0 : Nat} {rs : List HR} {D : Nat → Bool} {e i : Nat} (h : SupE ne0 (rs.take i) D e) : e < ne0 ∨ ∃ j r, j < i ∧ rs[j]? = some r ∧ D j = true ∧ r.ne ≤ e ∧ e < r.ne + r.nds.length := by
  rcases h with h | ⟨j, r, h1, h2⟩
  · exact .inl h
  · exact .inr ⟨j, r, (take_some h1).2, (take_some h1).1, h2⟩
theorem SupB.take {nb0 : Nat} {rs : List HR} {D : Nat → Bool} {k i : Nat} (h : SupB nb0 (rs.take i) D k) : k < nb0 ∨ ∃ j r, j < i ∧ rs[j]? = some r ∧ D j = true ∧ isNew r = true ∧ k = nb0 + cntNew (rs.take j) := by
  rcases h with h | ⟨j, r, h1, h2, h3, h4⟩
  · exact .inl h
  · refine .inr ⟨j, r, (take_some h1).2, (take_some h1).1, h2, h3, ?_⟩
    rw [h4, List.take_take, Nat.min_eq_left (Nat.le_of_lt (take_some h1).2)]
theorem okNds_in {ne0 nb0 : Nat} {rs : List HR} {D : Nat → Bool} {ne : Nat} : ∀ (ns : List Nd) (j : Nat), okNds ne0 nb0 rs D ne ns j = true → NdsIn (SupE ne0 rs D) (SupB nb0 rs D) ne ns j
  | [], _, _ => trivial
  | n :: ns, j, h => by
    simp only [okNds, Bool.and_eq_true, List.all_eq_true] at h
    refine ⟨fun e he => ?_, fun b hb => ?_, okNds_in ns (j + 1) h.2⟩
    · have := h.1.1 e he
      simp only [supE, Bool.or_eq_true, Bool.and_eq_true, decide_eq_true_eq] at this
      rcases this with h1 | h1
      · exact .inl (by simpa [SupE] using allowE_sup rs 0 h1)
      · exact .inr h1
    · have := h.1.2 b hb
      simp only [supB, Bool.or_eq_true, decide_eq_true_eq] at this
      rcases this with (h1 | h1) | h1
      · exact .inl h1
      · exact .inr (by simpa using allowB_sup rs nb0 0 h1)
      · simp at h1
theorem supE_in {ne0 : Nat} {rs : List HR} {D : Nat → Bool} {ne len e : Nat} (h : supE ne0 rs D ne len e = true) : SupE ne0 rs D e ∨ (ne ≤ e ∧ e < ne + len) := by
  simp only [supE, Bool.or_eq_true, Bool.and_eq_true, decide_eq_true_eq] at h
  rcases h with h1 | h1
  · exact .inl (by simpa [SupE] using allowE_sup rs 0 h1)
  · exact .inr h1
theorem supB_in {nb0 : Nat} {rs : List HR} {D : Nat → Bool} {own : Option Nat} {k : Nat} (h : supB nb0 rs D own k = true) : SupB nb0 rs D k ∨ own = some k := by
  simp only [supB, Bool.or_eq_true, decide_eq_true_eq, beq_iff_eq] at h
  rcases h with (h1 | h1) | h1
  · exact .inl (.inl h1)
  · exact .inl (.inr (by simpa using allowB_sup rs nb0 0 h1))
  · exact .inr h1
abbrev junked (ops : Array Oper) (bf : List Nat) (σ : St) (i : Nat) : St := { σ with slots := junkSlots (clash ops.toList bf i) 0 σ.slots }
/-- The state from which the i-th operation is run. -/
abbrev headAt (A : Ann) (ops : Array Oper) (bf : List Nat) (σ : St) (out : List HR) (i ne : Nat) (o : Oper) : St :=
  headSt A (junked ops bf σ i) (out.take i) (bf.getD i 0).testBit ne o (seesOrd A ops.toList bf i o)
/-- What is known of the i-th operation's result. -/
structure Fact (X : Ctx) (A : Ann) (ops : Array Oper) (bf : List Nat) (σ : St) (out : List HR) (i : Nat) (o : Oper) (r : HR) : Prop where
  dst : r.dst = o.dst
  ne : r.ne = σ.ne + cntNe (out.take i)
  nds : NdsIn (SupE σ.ne (out.take i) (bf.getD i 0).testBit) (SupB σ.blocks.length (out.take i) (bf.getD i 0).testBit) r.ne r.nds 0
  sE : ∀ e ∈ svE r.slot.s, SupE σ.ne (out.take i) (bf.getD i 0).testBit e ∨ (r.ne ≤ e ∧ e < r.ne + r.nds.length)
  sB : ∀ b ∈ svB r.slot.s, SupB σ.blocks.length (out.take i) (bf.getD i 0).testBit b ∨ (isNew r = true ∧ b = σ.blocks.length + cntNew (out.take i))
  gE : ∀ e ∈ gE r.slot.g, SupE σ.ne (out.take i) (bf.getD i 0).testBit e
  gB : ∀ b ∈ gB r.slot.g, SupB σ.blocks.length (out.take i) (bf.getD i 0).testBit b
  cE : ∀ b, (r.eff = .new b ∨ ∃ k, r.eff = .set k b) → ∀ e ∈ contE b.cont, SupE σ.ne (out.take i) (bf.getD i 0).testBit e ∨ (r.ne ≤ e ∧ e < r.ne + r.nds.length)
  cB : ∀ b, (r.eff = .new b ∨ ∃ k, r.eff = .set k b) → ∀ c ∈ contB b.cont, SupB σ.blocks.length (out.take i) (bf.getD i 0).testBit c
  kB : ∀ k b, r.eff = .set k b → SupB σ.blocks.length (out.take i) (bf.getD i 0).testBit k
  sS : SupE σ.ne (out.take i) (bf.getD i 0).testBit r.s
  s : r.s = (headAt A ops bf σ out i r.ne o).sy.s
  isSet : (∃ k b, r.eff = .set k b) → isStore o = true
  isEf : r.eff = .eff → isEff A o = true ∧ r.nds.length = 1
  isNw : isNew r = true → isNewOp o = true
  md : r.eff = .eff → isMd A o = true → newOrd ops.toList bf i = true
  op : ∃ g r0, guardOf ops (headAt A ops bf σ out i r.ne o) o = some g ∧ step X.P A (headAt A ops bf σ out i r.ne o) g o = some r0 ∧ mkHR A o g r.ne (headAt A ops bf σ out i r.ne o).blocks.length (headAt A ops bf σ out i r.ne o).sy.s r0 = some r
theorem headSt_len (A : Ann) (σ : St) (rs : List HR) (D : Nat → Bool) (ne : Nat) (o : Oper) (lv : Bool) : (headSt A σ rs D ne o lv).blocks.length = σ.blocks.length + cntNew rs := by
  simp only [headSt]
  split
  · rw [minSt_eq]; simp only; rw [minB_len]
  · rw [minSt_eq]; simp only [List.length_map]; rw [minB_len]
theorem mkHR_inv {A : Ann} {o : Oper} {g : List (At × Bool)} {ne nb s : Nat} {r0 : Res} {r : HR} (h : mkHR A o g ne nb s r0 = some r) :
    (∃ x, r0.fin = .val x ∧ r = ⟨o.dst, ⟨x, g⟩, ne, gmap g r0.nds, .none, s⟩) ∨
    (∃ b, r0.fin = .newb b ∧ g = [] ∧ isNewOp o = true ∧ r = ⟨o.dst, ⟨.x (.p nb 0), []⟩, ne, r0.nds, .new b, s⟩) ∨
    (∃ b len, r0.fin = .newsl b len ∧ g = [] ∧ isNewOp o = true ∧ r = ⟨o.dst, ⟨.x (.sl nb 0 len len), []⟩, ne, r0.nds, .new b, s⟩) ∨
    (∃ k b, r0.fin = .setb k b ∧ g = [] ∧ isStore o = true ∧ r = ⟨o.dst, ⟨.x (.c undef), []⟩, ne, r0.nds, .set k b, s⟩) ∨
    (∃ x md n, r0.fin = .eff x md ∧ isEff A o = true ∧ (md = true → isMd A o = true) ∧ r0.nds = [n] ∧ n.sync? = some s ∧ r = ⟨o.dst, ⟨x, g⟩, ne, gmap g r0.nds, .eff, s⟩) := by
  unfold mkHR at h
  simp only at h
  have hnil : ∀ {g : List (At × Bool)}, g.isEmpty = true → g = [] := fun h => List.isEmpty_iff.1 h
  split at h
  · rename_i x hf; cases h; exact .inl ⟨x, hf, rfl⟩
  · rename_i b hf
    split at h
    · rename_i hg
      simp only [Bool.and_eq_true] at hg
      have hgn := hnil hg.1
      subst hgn
      cases h
      exact .inr (.inl ⟨b, hf, rfl, hg.2, by simp⟩)
    · cases h
  · rename_i b len hf
    split at h
    · rename_i hg
      simp only [Bool.and_eq_true] at hg
      have hgn := hnil hg.1
      subst hgn
      cases h
      exact .inr (.inr (.inl ⟨b, len, hf, rfl, hg.2, by simp⟩))
    · cases h
  · rename_i k b hf
    split at h
    · rename_i hg
      simp only [Bool.and_eq_true] at hg
      have hgn := hnil hg.1
      subst hgn
      cases h
      exact .inr (.inr (.inr (.inl ⟨k, b, hf, rfl, hg.2, by simp⟩)))
    · cases h
  · rename_i x md hf
    split at h
    · rename_i hg
      simp only [Bool.and_eq_true, Bool.or_eq_true, Bool.not_eq_true'] at hg
      cases h
      obtain ⟨n, hn, hs⟩ := effOk_spec hg.2
      refine .inr (.inr (.inr (.inr ⟨x, md, n, hf, hg.1.1, fun hm => ?_, hn, hs, rfl⟩)))
      rcases hg.1.2 with h | h
      · rw [hm] at h; cases h
      · exact h
    · cases h
theorem fact_of {X : Ctx} {A : Ann} {ops : Array Oper} {bf : List Nat} {σ : St} {out : List HR} {i : Nat} {o : Oper} {r : HR}
    (h : headOp X.P A ops bf i (junked ops bf σ i) (out.take i) (σ.ne + cntNe (out.take i)) o = some r) : Fact X A ops bf σ out i o r := by
  unfold headOp at h
  simp only at h
  split at h
  · cases h
  rename_i g hg
  split at h
  · cases h
  rename_i r0 hr0
  split at h
  · cases h
  rename_i hr hmk
  split at h
  · cases h
  rename_i hmd
  split at h
  · rename_i hok
    cases h
    have hinv := mkHR_inv hmk
    have hne : r.ne = σ.ne + cntNe (out.take i) ∧ r.dst = o.dst ∧ r.s = (headAt A ops bf σ out i (σ.ne + cntNe (out.take i)) o).sy.s := by
      rcases hinv with ⟨x, _, he⟩ | ⟨b, _, _, _, he⟩ | ⟨b, len, _, _, _, he⟩ | ⟨k, b, _, _, _, he⟩ | ⟨x, md, n, _, _, _, _, _, he⟩ <;> exact ⟨by rw [he], by rw [he], by rw [he]⟩
    rw [headSt_len] at hok
    simp only at hok
    unfold okHR at hok
    simp only [Bool.and_eq_true, List.all_eq_true] at hok
    obtain ⟨⟨⟨⟨⟨k1, k2⟩, k3⟩, k4⟩, k6⟩, k5⟩ := hok
    have none_ : ∀ {k : Nat}, supB σ.blocks.length (out.take i) (bf.getD i 0).testBit none k = true → SupB σ.blocks.length (out.take i) (bf.getD i 0).testBit k := fun hk => by
      rcases supB_in hk with h | h
      · exact h
      · cases h
    have zero_ : ∀ {e : Nat}, supE σ.ne (out.take i) (bf.getD i 0).testBit r.ne 0 e = true → SupE σ.ne (out.take i) (bf.getD i 0).testBit e := fun he => by
      rcases supE_in he with h | h
      · exact h
      · omega
    refine ⟨hne.2.1, hne.1, okNds_in _ _ k1, fun e he => supE_in (k2 e (by simp [he])), ?_, fun e he => zero_ (k3 e he), fun b hb => none_ (k4 b hb), ?_, ?_, ?_, zero_ k6, by rw [hne.1]; exact hne.2.2, ?_, ?_, ?_, ?_, ?_⟩
    · intro b hb
      cases hef : r.eff with
      | none => rw [hef] at k5; simp only [List.all_eq_true] at k5; exact .inl (none_ (k5 b hb))
      | eff => rw [hef] at k5; simp only [List.all_eq_true] at k5; exact .inl (none_ (k5 b hb))
      | new b' =>
        rw [hef] at k5
        simp only [Bool.and_eq_true, List.all_eq_true] at k5
        rcases supB_in (k5.1.1 b hb) with h | h
        · exact .inl h
        · exact .inr ⟨by simp [isNew, hef], by simpa using h.symm⟩
      | set k' b' =>
        rw [hef] at k5
        simp only [Bool.and_eq_true, List.all_eq_true] at k5
        exact .inl (none_ (k5.1.1.1 b hb))
    · rintro b (hef | ⟨k, hef⟩) e he
      · rw [hef] at k5
        simp only [Bool.and_eq_true, List.all_eq_true] at k5
        exact supE_in (k5.1.2 e he)
      · rw [hef] at k5
        simp only [Bool.and_eq_true, List.all_eq_true] at k5
        exact supE_in (k5.1.1.2 e he)
    · rintro b (hef | ⟨k, hef⟩) c hc
      · rw [hef] at k5
        simp only [Bool.and_eq_true, List.all_eq_true] at k5
        exact none_ (k5.2 c hc)
      · rw [hef] at k5
        simp only [Bool.and_eq_true, List.all_eq_true] at k5
        exact none_ (k5.1.2 c hc)
    · intro k b hef
      rw [hef] at k5
      simp only [Bool.and_eq_true, List.all_eq_true] at k5
      exact none_ k5.2
    · rintro ⟨k, b, hef⟩
      rcases hinv with ⟨x, _, he⟩ | ⟨b, _, _, _, he⟩ | ⟨b, len, _, _, _, he⟩ | ⟨k, b, _, _, hst, he⟩ | ⟨x, md, n, _, _, _, _, _, he⟩ <;> first | exact hst | (rw [he] at hef; cases hef)
    · intro hef
      rcases hinv with ⟨x, _, he⟩ | ⟨b, _, _, _, he⟩ | ⟨b, len, _, _, _, he⟩ | ⟨k, b, _, _, hst, he⟩ | ⟨x, md, n, _, he1, _, he2, _, he⟩ <;> first | (rw [he] at hef; cases hef; done) | exact ⟨he1, by rw [he, he2]; rfl⟩
    · intro hef
      rcases hinv with ⟨x, _, he⟩ | ⟨b, _, _, hnw, he⟩ | ⟨b, len, _, _, hnw, he⟩ | ⟨k, b, _, _, hst, he⟩ | ⟨x, md, n, _, he1, _, he2, _, he⟩ <;> first | exact hnw | (rw [he] at hef; cases hef)
    · intro hef hm
      simp only [mdBad, hef, hm, Bool.true_and, Bool.not_eq_true', Bool.not_eq_false] at hmd
      exact hmd
    · exact ⟨g, r0, by rw [hne.1]; exact hg, by rw [hne.1]; exact hr0, by rw [hne.1]; exact hmk⟩
  · cases h
theorem headList_spec {X : Ctx} {A : Ann} {ops : Array Oper} {bf : List Nat} {σ : St} {out : List HR} : ∀ (l : List Oper) (i : Nat) (rs : List HR), rs.length = i → headList X.P A ops bf σ l i rs (σ.ne + cntNe rs) = some out →
    (∃ tl, out = rs ++ tl) ∧ out.length = i + l.length ∧ ∀ j o, l[j]? = some o → ∃ r, out[i + j]? = some r ∧ Fact X A ops bf σ out (i + j) o r
  | [], i, rs, hi, h => by
    simp only [headList, Option.some.injEq] at h
    subst h
    exact ⟨⟨[], by simp⟩, by simp [hi], fun j o hj => by simp at hj⟩
  | o :: l, i, rs, hi, h => by
    simp only [headList] at h
    split at h
    · cases h
    rename_i r hr
    have hne : σ.ne + cntNe rs + r.nds.length = σ.ne + cntNe (rs ++ [r]) := by rw [cntNe_append, cntNe_one]; omega
    rw [hne] at h
    obtain ⟨⟨tl, h1⟩, h2, h3⟩ := headList_spec l (i + 1) (rs ++ [r]) (by simp [hi]) h
    refine ⟨⟨r :: tl, by rw [h1]; simp⟩, by rw [h2]; simp; omega, fun j o' hj => ?_⟩
    cases j with
    | zero =>
      simp at hj
      subst hj
      have ht : out.take i = rs := by rw [h1, List.append_assoc, List.take_append_of_le_length (by omega), List.take_of_length_le (by omega)]
      refine ⟨r, ?_, ?_⟩
      · rw [h1, List.append_assoc, Nat.add_zero, List.getElem?_append_right (by omega)]
        simp [hi]
      · refine fact_of ?_
        rw [Nat.add_zero, ht]; exact hr
    | succ j =>
      obtain ⟨r', h4, h5⟩ := h3 j o' (by simpa using hj)
      rw [show i + 1 + j = i + (j + 1) from by omega] at h4 h5
      exact ⟨r', h4, h5⟩
section
variable {X : Ctx} {A : Ann} {ops : Array Oper} {bf : List Nat} {σ : St} {ls : Nat → List Value → World → Prop}
/-- All the results' facts. -/
def Facts (X : Ctx) (A : Ann) (ops : Array Oper) (bf : List Nat) (σ : St) (out : List HR) : Prop := out.length = ops.toList.length ∧ ∀ i o, ops.toList[i]? = some o → ∃ r, out[i]? = some r ∧ Fact X A ops bf σ out i o r
theorem Facts.get {out : List HR} (F : Facts X A ops bf σ out) {i : Nat} {r : HR} (h : out[i]? = some r) : ∃ o, ops.toList[i]? = some o ∧ Fact X A ops bf σ out i o r := by
  have hl := (List.getElem?_eq_some_iff.1 h).1
  have : i < ops.toList.length := by rw [← F.1]; exact hl
  obtain ⟨r', h1, h2⟩ := F.2 i _ (List.getElem?_eq_getElem this)
  rw [h] at h1
  cases h1
  exact ⟨_, List.getElem?_eq_getElem this, h2⟩
theorem Facts.ne_le {out : List HR} (F : Facts X A ops bf σ out) {i j : Nat} {r s : HR} (hi : out[i]? = some r) (hj : out[j]? = some s) (hij : i < j) : r.ne + r.nds.length ≤ s.ne := by
  obtain ⟨_, _, f1⟩ := F.get hi
  obtain ⟨_, _, f2⟩ := F.get hj
  rw [f1.ne, f2.ne]
  have := cntNe_lt hi hij
  omega
theorem Facts.ne_ge {out : List HR} (F : Facts X A ops bf σ out) {i : Nat} {r : HR} (hi : out[i]? = some r) : σ.ne ≤ r.ne := by
  obtain ⟨_, _, f1⟩ := F.get hi
  rw [f1.ne]; omega
theorem Facts.supE_lt {out : List HR} (F : Facts X A ops bf σ out) {i : Nat} {r : HR} (hi : out[i]? = some r) {D : Nat → Bool} {e : Nat} (h : SupE σ.ne (out.take i) D e) : e < r.ne := by
  rcases h.take with h | ⟨j, s, h1, h2, h3, h4, h5⟩
  · exact Nat.lt_of_lt_of_le h (F.ne_ge hi)
  · exact Nat.lt_of_lt_of_le h5 (F.ne_le h2 hi h1)
theorem supB_lt {out : List HR} {i : Nat} {D : Nat → Bool} {k : Nat} {nb0 : Nat} (h : SupB nb0 (out.take i) D k) : k < nb0 + cntNew (out.take i) := by
  rcases h.take with h | ⟨j, s, h1, h2, h3, h4, h5⟩
  · omega
  · rw [h5]; have := cntNew_lt h2 h4 h1; omega
/-- The i-th result's nodes have their values in env. -/
abbrev Okk (X : Ctx) (σ : St) (out : List HR) (env : Env) (β : Nat → Nat) (i : Nat) (r : HR) : Prop := OkAt X env β r (σ.blocks.length + cntNew (out.take i))
/-- What the tree says, under whatever values. -/
theorem chain_dyn {out : List HR} (F : Facts X A ops bf σ out) {k : T} : ∀ (l rs : List HR) (env1 : Env) (β1 : Nat → Nat), out = rs ++ l →
    (chainAll l k).den X env1 (σ.ne + cntNe rs) β1 (σ.blocks.length + cntNew rs) ls →
    ∀ (env : Env) (β : Nat → Nat), (∀ e, e < σ.ne + cntNe rs → env1 e = env e) → (∀ k, k < σ.blocks.length + cntNew rs → β1 k = β k) →
      (∀ j r, rs.length ≤ j → out[j]? = some r → (∀ j' r', rs.length ≤ j' → j' < j → out[j']? = some r' → Okk X σ out env β j' r') → PreChain X β r.nds env r.ne) ∧
      ((∀ j r, rs.length ≤ j → out[j]? = some r → Okk X σ out env β j r) → ∃ envf βf, (∀ e, e < σ.ne + cntNe out → envf e = env e) ∧ (∀ k, k < σ.blocks.length + cntNew out → βf k = β k) ∧
        k.den X envf (σ.ne + cntNe out) βf (σ.blocks.length + cntNew out) ls)
  | [], rs, env1, β1, ho, hden, env, β, he, hb => by
    rw [List.append_nil] at ho
    subst ho
    refine ⟨fun j r hj hr => ?_, fun _ => ⟨env1, β1, he, hb, hden⟩⟩
    rw [List.getElem?_eq_none (by omega)] at hr; cases hr
  | r :: l, rs, env1, β1, ho, hden, env, β, he, hb => by
    have ho' : out = (rs ++ [r]) ++ l := by rw [ho]; simp
    simp only [chainAll] at hden
    have hne : σ.ne + cntNe rs + r.nds.length = σ.ne + cntNe (rs ++ [r]) := by rw [cntNe_append, cntNe_one]; omega
    have hout : out[rs.length]? = some r := by
      rw [ho, List.getElem?_append_right (Nat.le_refl _)]
      simp
    have htake : out.take rs.length = rs := by rw [ho]; simp
    obtain ⟨o', hoo, f⟩ := F.get hout
    have hrne : r.ne = σ.ne + cntNe rs := by rw [f.ne, htake]
    have hnds := f.nds
    rw [htake] at hnds
    have hE : ∀ e, SupE σ.ne rs (bf.getD rs.length 0).testBit e → env1 e = env e := fun e h => he e (by
      have := F.supE_lt hout (D := (bf.getD rs.length 0).testBit) (e := e) (by rw [htake]; exact h)
      omega)
    have hB : ∀ k, SupB σ.blocks.length rs (bf.getD rs.length 0).testBit k → β1 k = β k := fun k h => hb k (by
      have := supB_lt (out := out) (i := rs.length) (D := (bf.getD rs.length 0).testBit) (k := k) (nb0 := σ.blocks.length) (by rw [htake]; exact h)
      rw [htake] at this; exact this)
    obtain ⟨hp, hk⟩ := den_ndChain _ hden
    rw [← hrne] at hp hk
    have hpre : PreChain X β r.nds env r.ne := PreChain.congr (ne := r.ne) (j := 0) hB hnds hE (fun e h1 h2 => by omega) hp
    have hlr : (rs ++ [r]).length = rs.length + 1 := by simp
    -- behind this operation
    have hnext : Okk X σ out env β rs.length r →
        (∀ j r', rs.length + 1 ≤ j → out[j]? = some r' → (∀ j' r'', rs.length + 1 ≤ j' → j' < j → out[j']? = some r'' → Okk X σ out env β j' r'') → PreChain X β r'.nds env r'.ne) ∧
        ((∀ j r', rs.length + 1 ≤ j → out[j]? = some r' → Okk X σ out env β j r') → ∃ envf βf, (∀ e, e < σ.ne + cntNe out → envf e = env e) ∧ (∀ k, k < σ.blocks.length + cntNew out → βf k = β k) ∧
          k.den X envf (σ.ne + cntNe out) βf (σ.blocks.length + cntNew out) ls) := by
      rintro ⟨⟨vs, hc, hv⟩, hnb⟩
      have hc1 : Chain X β1 r.nds env1 r.ne vs := Chain.congr (ne := r.ne) (j := 0) (fun k h => (hB k h).symm) hnds (fun e h => (hE e h).symm) (fun e h1 h2 => by omega) hc
      have h1 := hk vs hc1
      have hlen := hc.length
      have hcne : r.ne + r.nds.length = σ.ne + cntNe (rs ++ [r]) := by rw [← hne, hrne]
      rw [hcne] at h1
      have hag : ∀ e, e < σ.ne + cntNe (rs ++ [r]) → updl env1 r.ne vs e = env e := fun e he' => by
        rcases Nat.lt_or_ge e r.ne with h2 | h2
        · rw [updl_lt _ _ _ _ h2]; exact he e (by omega)
        · rw [← hv e]
          have hkk : e - r.ne < vs.length := by omega
          have e1 := updl_get vs env1 r.ne (e - r.ne) hkk
          have e2 := updl_get vs env r.ne (e - r.ne) hkk
          rw [show r.ne + (e - r.ne) = e from by omega] at e1 e2
          rw [e1, e2]
      cases hef : r.eff with
      | new b =>
        rw [hef] at h1
        simp only [T.den] at h1
        have hnbb : σ.blocks.length + cntNew rs + 1 = σ.blocks.length + cntNew (rs ++ [r]) := by rw [cntNew_append, cntNew_cons]; simp [isNew, hef, cntNew]; omega
        have hs : updl env1 r.ne vs r.s = env r.s := by
          have := F.supE_lt hout f.sS
          exact hag r.s (by omega)
        have h2 := h1 (β (σ.blocks.length + cntNew rs)) (by
          have := hnb (by simp [isNew, hef])
          rw [htake] at this
          rw [hs]; exact this)
        rw [hnbb] at h2
        have := chain_dyn F l (rs ++ [r]) _ _ ho' h2 env β hag fun k hk' => by
          by_cases hkk : k = σ.blocks.length + cntNew rs
          · subst hkk; rw [upd_same]
          · rw [upd_ne _ _ hkk]; exact hb k (by omega)
        rw [hlr] at this
        exact this
      | none =>
        rw [hef] at h1
        have hnbb : σ.blocks.length + cntNew rs = σ.blocks.length + cntNew (rs ++ [r]) := by rw [cntNew_append, cntNew_cons]; simp [isNew, hef, cntNew]
        simp only at h1
        rw [hnbb] at h1
        have := chain_dyn F l (rs ++ [r]) _ _ ho' h1 env β hag fun k hk' => hb k (by omega)
        rw [hlr] at this
        exact this
      | eff =>
        rw [hef] at h1
        have hnbb : σ.blocks.length + cntNew rs = σ.blocks.length + cntNew (rs ++ [r]) := by rw [cntNew_append, cntNew_cons]; simp [isNew, hef, cntNew]
        simp only at h1
        rw [hnbb] at h1
        have := chain_dyn F l (rs ++ [r]) _ _ ho' h1 env β hag fun k hk' => hb k (by omega)
        rw [hlr] at this
        exact this
      | set k' b =>
        rw [hef] at h1
        have hnbb : σ.blocks.length + cntNew rs = σ.blocks.length + cntNew (rs ++ [r]) := by rw [cntNew_append, cntNew_cons]; simp [isNew, hef, cntNew]
        simp only at h1
        rw [hnbb] at h1
        have := chain_dyn F l (rs ++ [r]) _ _ ho' h1 env β hag fun k hk' => hb k (by omega)
        rw [hlr] at this
        exact this
    refine ⟨fun j r' hj hr' hok => ?_, fun hok => ?_⟩
    · rcases Nat.eq_or_lt_of_le hj with h | h
      · subst h
        rw [hout] at hr'
        cases hr'
        exact hpre
      · exact (hnext (hok rs.length r (Nat.le_refl _) h hout)).1 j r' h hr' fun j' r'' h1 h2 h3 => hok j' r'' (by omega) h2 h3
    · exact (hnext (hok rs.length r (Nat.le_refl _) hout)).2 fun j r' h1 h2 => hok j r' (by omega) h2
end
end Go.Vc
