import Derived.Test.YtcnmnmhmmgjblaaGreatDoorVcSound7
/-
  The engine is sound, part 8a: what the head of a region that draws its order comes to, as lists.
-/
namespace Go.Vc
open Go Go.RowKit
theorem cntNew_append (a b : List HR) : cntNew (a ++ b) = cntNew a + cntNew b := by simp [cntNew]
theorem cntNe_append (a b : List HR) : cntNe (a ++ b) = cntNe a + cntNe b := by simp [cntNe]
theorem cntNe_one (r : HR) : cntNe [r] = r.nds.length := by simp [cntNe]
theorem cntNew_cons (r : HR) (b : List HR) : cntNew (r :: b) = (if isNew r then 1 else 0) + cntNew b := by
  simp only [cntNew, List.filter_cons]; split <;> simp <;> omega
theorem take_get {α : Type} {l : List α} {i : Nat} {x : α} (h : l[i]? = some x) : l.take (i + 1) = l.take i ++ [x] := by
  rw [List.take_add_one, h]; rfl
theorem cntNe_take_le (rs : List HR) {i j : Nat} (h : i ≤ j) : cntNe (rs.take i) ≤ cntNe (rs.take j) := by
  have : rs.take j = rs.take i ++ (rs.take j).drop i := by
    conv => lhs; rw [← List.take_append_drop i (rs.take j)]
    rw [List.take_take, Nat.min_eq_left h]
  rw [this, cntNe_append]; omega
theorem cntNew_take_le (rs : List HR) {i j : Nat} (h : i ≤ j) : cntNew (rs.take i) ≤ cntNew (rs.take j) := by
  have : rs.take j = rs.take i ++ (rs.take j).drop i := by
    conv => lhs; rw [← List.take_append_drop i (rs.take j)]
    rw [List.take_take, Nat.min_eq_left h]
  rw [this, cntNew_append]; omega
theorem cntNe_lt {rs : List HR} {i j : Nat} {r : HR} (h : rs[i]? = some r) (hij : i < j) : cntNe (rs.take i) + r.nds.length ≤ cntNe (rs.take j) := by
  have := cntNe_take_le rs (show i + 1 ≤ j from hij)
  rw [take_get h, cntNe_append, cntNe_one] at this
  exact this
theorem cntNew_lt {rs : List HR} {i j : Nat} {r : HR} (h : rs[i]? = some r) (hn : isNew r = true) (hij : i < j) : cntNew (rs.take i) < cntNew (rs.take j) := by
  have := cntNew_take_le rs (show i + 1 ≤ j from hij)
  rw [take_get h, cntNew_append, cntNew_cons, hn] at this
  simp at this; omega
/-! ### the state that some results leave -/
def minS (D : Nat → Bool) : Nat → List HR → List Slot → List Slot
  | _, [], s => s
  | i, r :: rs, s => minS D (i + 1) rs (if D i then (match r.dst with | some t => s.set t r.slot | none => s) else s)
def minB (D : Nat → Bool) : Nat → List HR → List (Option Blk) → List (Option Blk)
  | _, [], s => s
  | i, r :: rs, s => minB D (i + 1) rs (match r.eff with
      | .none | .eff => s
      | .new b => s ++ [if D i then some b else none]
      | .set k b => if D i then s.set k (some b) else s)
def yR (on : Bool) (y : Sy) (r : HR) : Sy :=
  match r.eff with
  | .eff => if on then ⟨y.live, r.ne + r.nds.length - 1, if r.slot.g.isEmpty then [] else y.ow⟩ else y
  | .set k _ => if on then ⟨y.live, y.s, k :: y.ow⟩ else y
  | _ => y
def minY (D : Nat → Bool) : Nat → List HR → Sy → Sy
  | _, [], y => y
  | i, r :: rs, y => minY D (i + 1) rs (yR (D i) y r)
theorem minSt_eq (D : Nat → Bool) : ∀ (rs : List HR) (i : Nat) (σ : St), minSt D i rs σ = ⟨minS D i rs σ.slots, minB D i rs σ.blocks, σ.gl, σ.ne, minY D i rs σ.sy⟩
  | [], i, σ => rfl
  | r :: rs, i, σ => by
    simp only [minSt, minS, minB, minY]
    rw [minSt_eq D rs]
    rfl
theorem minS_len (D : Nat → Bool) : ∀ (rs : List HR) (i : Nat) (s : List Slot), (minS D i rs s).length = s.length
  | [], i, s => rfl
  | r :: rs, i, s => by
    simp only [minS]
    rw [minS_len D rs]
    split
    · split <;> simp
    · rfl
theorem minB_len (D : Nat → Bool) : ∀ (rs : List HR) (i : Nat) (s : List (Option Blk)), (minB D i rs s).length = s.length + cntNew rs
  | [], i, s => by simp [minB, cntNew]
  | r :: rs, i, s => by
    simp only [minB]
    rw [minB_len D rs, cntNew_cons]
    cases he : r.eff with
    | none => simp [isNew, he]
    | eff => simp [isNew, he]
    | new b => simp [isNew, he]; omega
    | set k b => simp only [isNew, he]; split <;> simp
theorem minS_congr {D D' : Nat → Bool} : ∀ (rs : List HR) (i : Nat) (s : List Slot), (∀ j, i ≤ j → j < i + rs.length → D j = D' j) → minS D i rs s = minS D' i rs s
  | [], i, s, _ => rfl
  | r :: rs, i, s, h => by
    simp only [minS]
    rw [h i (by omega) (by simp), minS_congr rs (i + 1) _ (fun j h1 h2 => h j (by omega) (by simp; omega))]
theorem minB_congr {D D' : Nat → Bool} : ∀ (rs : List HR) (i : Nat) (s : List (Option Blk)), (∀ j, i ≤ j → j < i + rs.length → D j = D' j) → minB D i rs s = minB D' i rs s
  | [], i, s, _ => rfl
  | r :: rs, i, s, h => by
    simp only [minB]
    rw [h i (by omega) (by simp), minB_congr rs (i + 1) _ (fun j h1 h2 => h j (by omega) (by simp; omega))]
theorem minS_append (D : Nat → Bool) : ∀ (as bs : List HR) (i : Nat) (s : List Slot), minS D i (as ++ bs) s = minS D (i + as.length) bs (minS D i as s)
  | [], bs, i, s => by simp [minS]
  | a :: as, bs, i, s => by
    simp only [List.cons_append, minS, List.length_cons]
    rw [minS_append D as bs, show i + 1 + as.length = i + (as.length + 1) from by omega]
theorem minB_append (D : Nat → Bool) : ∀ (as bs : List HR) (i : Nat) (s : List (Option Blk)), minB D i (as ++ bs) s = minB D (i + as.length) bs (minB D i as s)
  | [], bs, i, s => by simp [minB]
  | a :: as, bs, i, s => by
    simp only [List.cons_append, minB, List.length_cons]
    rw [minB_append D as bs, show i + 1 + as.length = i + (as.length + 1) from by omega]
/-- A slot that none of the results writes. -/
theorem minS_miss {D : Nat → Bool} {t : Nat} : ∀ (rs : List HR) (i : Nat) (s : List Slot), (∀ j r, rs[j]? = some r → D (i + j) = true → r.dst ≠ some t) → (minS D i rs s)[t]? = s[t]?
  | [], i, s, _ => rfl
  | r :: rs, i, s, h => by
    simp only [minS]
    rw [minS_miss rs (i + 1) _ (fun j r' hj hd => h (j + 1) r' (by simpa using hj) (by rw [show i + (j + 1) = i + 1 + j from by omega]; exact hd))]
    split
    · rename_i hd
      have := h 0 r rfl (by simpa using hd)
      split
      · rename_i u hu
        rw [hu] at this
        exact List.getElem?_set_ne (by intro he; subst he; exact this rfl)
      · rfl
    · rfl
/-- A slot that one of the results writes, and no other. -/
theorem minS_hit {D : Nat → Bool} {t k : Nat} {r0 : HR} : ∀ (rs : List HR) (i : Nat) (s : List Slot), rs[k]? = some r0 → D (i + k) = true → r0.dst = some t → t < s.length →
    (∀ j r, rs[j]? = some r → j ≠ k → r.dst ≠ some t) → (minS D i rs s)[t]? = some r0.slot := by
  intro rs i s hk hD hdst hlt huniq
  have hsplit : rs = rs.take k ++ r0 :: rs.drop (k + 1) := by
    have hk' := hk
    rw [List.getElem?_eq_some_iff] at hk'
    obtain ⟨hl, hg⟩ := hk'
    rw [← hg, ← List.drop_eq_getElem_cons hl, List.take_append_drop]
  have hlk : (rs.take k).length = k := by
    have := (List.getElem?_eq_some_iff.1 hk).1
    simp; omega
  rw [hsplit, minS_append, hlk]
  simp only [minS]
  rw [if_pos hD, hdst]
  simp only
  rw [minS_miss]
  · rw [List.getElem?_set_self (by rw [minS_len]; exact hlt)]
  · intro j r hj _
    refine huniq (k + 1 + j) r ?_ (by omega)
    rw [List.getElem?_drop] at hj
    exact hj
theorem minB_mem {D : Nat → Bool} {k : Nat} {b : Blk} : ∀ (rs : List HR) (i : Nat) (s : List (Option Blk)), (minB D i rs s)[k]? = some (some b) →
    s[k]? = some (some b) ∨ ∃ j r, rs[j]? = some r ∧ D (i + j) = true ∧ ((r.eff = .new b ∧ k = s.length + cntNew (rs.take j)) ∨ r.eff = .set k b)
  | [], i, s, h => .inl h
  | r :: rs, i, s, h => by
    simp only [minB] at h
    rcases minB_mem rs (i + 1) _ h with h1 | ⟨j, r', hj, hD, hr⟩
    · cases he : r.eff with
      | none => rw [he] at h1; exact .inl h1
      | eff => rw [he] at h1; exact .inl h1
      | new b' =>
        rw [he] at h1
        simp only at h1
        rw [List.getElem?_append] at h1
        split at h1
        · exact .inl h1
        · right
          have hz : k - s.length = 0 := by
            rcases Nat.eq_zero_or_pos (k - s.length) with h' | h'
            · exact h'
            · rw [List.getElem?_eq_none (by simp; omega)] at h1; cases h1
          rw [hz] at h1
          simp at h1
          refine ⟨0, r, rfl, by simpa using h1.1, .inl ⟨by rw [he, h1.2], by simp [cntNew]; omega⟩⟩
      | set k' b' =>
        rw [he] at h1
        simp only at h1
        split at h1
        · rename_i hd
          by_cases hkk : k' = k
          · subst hkk
            have hlt : k' < s.length := by
              have := (List.getElem?_eq_some_iff.1 h1).1
              simpa using this
            rw [List.getElem?_set_self hlt] at h1
            simp at h1
            exact .inr ⟨0, r, rfl, by simpa using hd, .inr (by rw [he, h1])⟩
          · rw [List.getElem?_set_ne hkk] at h1; exact .inl h1
        · exact .inl h1
    · refine .inr ⟨j + 1, r', by simpa using hj, by rw [show i + (j + 1) = i + 1 + j from by omega]; exact hD, ?_⟩
      rcases hr with ⟨h1, h2⟩ | h1
      · refine .inl ⟨h1, ?_⟩
        rw [h2, List.take_succ_cons, cntNew_cons]
        cases he : r.eff with
        | none => simp [isNew, he]
        | eff => simp [isNew, he]
        | new b' => simp [isNew, he]; omega
        | set k' b' => simp only [isNew, he]; split <;> simp
      · exact .inr h1
/-- A block that the one set of results does not know, and the other fills. -/
theorem minB_set {D : Nat → Bool} {k : Nat} {x : Option Blk} : ∀ (rs : List HR) (i : Nat) (s : List (Option Blk)), k < s.length →
    (∀ j r k' b, rs[j]? = some r → D (i + j) = true → r.eff = .set k' b → k' ≠ k) → minB D i rs (s.set k x) = (minB D i rs s).set k x
  | [], i, s, _, _ => rfl
  | r :: rs, i, s, hk, h => by
    have hrest : ∀ (j : Nat) (r' : HR) (k' : Nat) (b : Blk), rs[j]? = some r' → D (i + 1 + j) = true → r'.eff = .set k' b → k' ≠ k := fun j r' k' b hj hd he =>
      h (j + 1) r' k' b (by simpa using hj) (by rw [show i + (j + 1) = i + 1 + j from by omega]; exact hd) he
    simp only [minB]
    cases he : r.eff with
    | none => exact minB_set rs (i + 1) s hk hrest
    | eff => exact minB_set rs (i + 1) s hk hrest
    | new b =>
      simp only
      rw [← minB_set rs (i + 1) _ (by simp; omega) hrest, List.set_append_left _ _ hk]
    | set k' b =>
      simp only
      split
      · rename_i hd
        have hne := h 0 r k' b rfl (by simpa using hd) he
        rw [← minB_set rs (i + 1) _ (by simpa using hk) hrest, List.set_comm _ _ (Ne.symm hne)]
      · exact minB_set rs (i + 1) s hk hrest
/-- Fewer results: fewer blocks known, the others alike. -/
theorem minB_sub {D D' : Nat → Bool} : ∀ (rs : List HR) (i : Nat) (s s' : List (Option Blk)), s.length = s'.length → (∀ (k : Nat) (b : Blk), s[k]? = some (some b) → s'[k]? = some (some b)) →
    (∀ j r, rs[j]? = some r → D (i + j) = true → D' (i + j) = true) → (∀ j r k b, rs[j]? = some r → r.eff = .set k b → D' (i + j) = true → D (i + j) = true) →
    ∀ (k : Nat) (b : Blk), (minB D i rs s)[k]? = some (some b) → (minB D' i rs s')[k]? = some (some b)
  | [], i, s, s', _, h, _, _ => h
  | r :: rs, i, s, s', hl, h, h1, h2 => by
    have h1' : ∀ (j : Nat) (r' : HR), rs[j]? = some r' → D (i + 1 + j) = true → D' (i + 1 + j) = true := fun j r' hj hd => by
      have := h1 (j + 1) r' (by simpa using hj)
      rw [show i + (j + 1) = i + 1 + j from by omega] at this
      exact this hd
    have h2' : ∀ (j : Nat) (r' : HR) (k : Nat) (b : Blk), rs[j]? = some r' → r'.eff = .set k b → D' (i + 1 + j) = true → D (i + 1 + j) = true := fun j r' k b hj he hd => by
      have := h2 (j + 1) r' k b (by simpa using hj) he
      rw [show i + (j + 1) = i + 1 + j from by omega] at this
      exact this hd
    have h10 := h1 0 r rfl
    have h20 := fun k b => h2 0 r k b rfl
    simp only [Nat.add_zero] at h10 h20
    simp only [minB]
    refine minB_sub rs (i + 1) _ _ ?_ ?_ h1' h2'
    · cases he : r.eff with
      | none => exact hl
      | eff => exact hl
      | new b => simp [hl]
      | set k b => simp only; split <;> split <;> simp [hl]
    · intro k b hk
      cases he : r.eff with
      | none => rw [he] at hk; exact h k b hk
      | eff => rw [he] at hk; exact h k b hk
      | new b' =>
        rw [he] at hk
        simp only at hk ⊢
        rw [List.getElem?_append] at hk ⊢
        split at hk
        · rename_i hlt
          rw [if_pos (by omega)]; exact h k b hk
        · rename_i hlt
          rw [if_neg (by omega), ← hl]
          by_cases hd : D i = true
          · rw [h10 hd]; rw [hd] at hk; exact hk
          · simp only [hd, Bool.false_eq_true, if_false] at hk
            exfalso
            rcases Nat.eq_zero_or_pos (k - s.length) with h' | h'
            · rw [h'] at hk; simp at hk
            · rw [List.getElem?_eq_none (by simp; omega)] at hk; cases hk
      | set k' b' =>
        have h20' := h20 k' b' he
        rw [he] at hk
        simp only at hk ⊢
        by_cases hd : D i = true
        · rw [if_pos (h10 hd)]
          rw [if_pos hd] at hk
          by_cases hkk : k' = k
          · subst hkk
            have hlt : k' < s.length := by
              have := (List.getElem?_eq_some_iff.1 hk).1
              simpa using this
            rw [List.getElem?_set_self hlt] at hk
            rw [List.getElem?_set_self (by omega)]
            exact hk
          · rw [List.getElem?_set_ne hkk] at hk ⊢
            exact h k b hk
        · rw [if_neg hd] at hk
          have : ¬ D' i = true := fun hd' => hd (h20' hd')
          rw [if_neg this]
          exact h k b hk
/-! ### what the nodes name -/
def NdsIn (E B : Nat → Prop) (ne : Nat) : List Nd → Nat → Prop
  | [], _ => True
  | n :: ns, j => (∀ e ∈ ndE n, E e ∨ (ne ≤ e ∧ e < ne + j)) ∧ (∀ b ∈ ndB n, B b) ∧ NdsIn E B ne ns (j + 1)
section
variable {X : Ctx} {E B : Nat → Prop} {ne : Nat} {β β' : Nat → Nat}
theorem upd_agree {env env' : Env} {ne j : Nat} {v : Val} (hE : ∀ e, E e → env e = env' e) (hO : ∀ e, ne ≤ e → e < ne + j → env e = env' e) :
    (∀ e, E e → upd env (ne + j) v e = upd env' (ne + j) v e) ∧ ∀ e, ne ≤ e → e < ne + (j + 1) → upd env (ne + j) v e = upd env' (ne + j) v e := by
  refine ⟨fun e he => ?_, fun e h1 h2 => ?_⟩
  · by_cases h : e = ne + j
    · subst h; rw [upd_same, upd_same]
    · rw [upd_ne _ _ h, upd_ne _ _ h]; exact hE e he
  · by_cases h : e = ne + j
    · subst h; rw [upd_same, upd_same]
    · rw [upd_ne _ _ h, upd_ne _ _ h]; exact hO e h1 (by omega)
theorem Chain.congr (hB : ∀ b, B b → β b = β' b) : ∀ {ns : List Nd} {j : Nat} {env env' : Env} {vs : List Val}, NdsIn E B ne ns j → (∀ e, E e → env e = env' e) → (∀ e, ne ≤ e → e < ne + j → env e = env' e) →
    Chain X β ns env (ne + j) vs → Chain X β' ns env' (ne + j) vs
  | [], _, _, _, _, _, _, _, h => h
  | _ :: _, _, _, _, [], _, _, _, h => h.elim
  | n :: ns, j, env, env', v :: vs, hn, hE, hO, h => by
    refine ⟨(Nd.den_congr v (fun e he => (hn.1 e he).elim (hE e) fun h => hO e h.1 h.2) (fun b hb => hB b (hn.2.1 b hb))).1 h.1, ?_⟩
    have hu := upd_agree (v := v) hE hO
    exact Chain.congr hB (j := j + 1) hn.2.2 hu.1 hu.2 h.2
theorem PreChain.congr (hB : ∀ b, B b → β b = β' b) : ∀ {ns : List Nd} {j : Nat} {env env' : Env}, NdsIn E B ne ns j → (∀ e, E e → env e = env' e) → (∀ e, ne ≤ e → e < ne + j → env e = env' e) →
    PreChain X β ns env (ne + j) → PreChain X β' ns env' (ne + j)
  | [], _, _, _, _, _, _, _ => trivial
  | n :: ns, j, env, env', hn, hE, hO, h => by
    have hEn : ∀ e ∈ ndE n, env e = env' e := fun e he => (hn.1 e he).elim (hE e) fun h => hO e h.1 h.2
    have hBn : ∀ b ∈ ndB n, β b = β' b := fun b hb => hB b (hn.2.1 b hb)
    refine ⟨(Nd.pre_congr hEn hBn).1 h.1, fun v hv => ?_⟩
    have hu := upd_agree (v := v) hE hO
    exact PreChain.congr hB (j := j + 1) hn.2.2 hu.1 hu.2 (h.2 v ((Nd.den_congr v hEn hBn).2 hv))
/-- The nodes' values are those that env tells. -/
def OkAt (X : Ctx) (env : Env) (β : Nat → Nat) (r : HR) (k : Nat) : Prop := (∃ vs, Chain X β r.nds env r.ne vs ∧ ∀ e, updl env r.ne vs e = env e) ∧ (isNew r = true → (env r.s).2.heap.size ≤ β k)
theorem OkAt.congr {env env' : Env} {r : HR} (hB : ∀ b, B b → β b = β' b) (hn : NdsIn E B r.ne r.nds 0) (hE : ∀ e, E e → env e = env' e) (hO : ∀ e, r.ne ≤ e → e < r.ne + r.nds.length → env e = env' e)
    {k : Nat} (hs : E r.s) (hk : isNew r = true → β k = β' k) (h : OkAt X env β r k) : OkAt X env' β' r k := by
  obtain ⟨⟨vs, hc, hv⟩, hnb⟩ := h
  have hc' : Chain X β' r.nds env' r.ne vs := Chain.congr (ne := r.ne) (j := 0) hB hn hE (fun e h1 h2 => by omega) hc
  refine ⟨⟨vs, hc', fun e => ?_⟩, fun hn => by rw [← hE _ hs, ← hk hn]; exact hnb hn⟩
  have hl := hc.length
  by_cases h1 : e < r.ne
  · exact updl_lt _ _ _ _ h1
  · by_cases h2 : e < r.ne + r.nds.length
    · have hk : e - r.ne < vs.length := by omega
      have e1 := updl_get vs env r.ne (e - r.ne) hk
      have e2 := updl_get vs env' r.ne (e - r.ne) hk
      rw [show r.ne + (e - r.ne) = e from by omega] at e1 e2
      rw [e2, ← e1, hv e, hO e (by omega) h2]
    · have key : ∀ (vs : List Val) (f : Env) (i j : Nat), i + vs.length ≤ j → updl f i vs j = f j := by
        intro vs
        induction vs with
        | nil => intro f i j _; rfl
        | cons v vs ih => intro f i j h; simp only [updl]; simp only [List.length_cons] at h; rw [ih _ _ _ (by omega), upd_ne _ _ (by omega)]
      exact key vs env' r.ne e (by omega)
end
theorem updl_ge {α : Type} (vs : List α) : ∀ (f : Nat → α) (i j : Nat), i + vs.length ≤ j → updl f i vs j = f j := by
  induction vs with
  | nil => intro f i j _; rfl
  | cons v vs ih => intro f i j h; simp only [updl]; simp only [List.length_cons] at h; rw [ih _ _ _ (by omega), upd_ne _ _ (by omega)]
theorem updl_twice {α : Type} (vs : List α) (f : Nat → α) (i e : Nat) : updl (updl f i vs) i vs e = updl f i vs e := by
  by_cases h1 : e < i
  · rw [updl_lt _ _ _ _ h1]
  · by_cases h2 : e < i + vs.length
    · have e1 := updl_get vs (updl f i vs) i (e - i) (by omega)
      have e2 := updl_get vs f i (e - i) (by omega)
      rw [show i + (e - i) = e from by omega] at e1 e2
      rw [e1, e2]
    · rw [updl_ge _ _ _ _ (by omega)]
theorem ok_of_chain {X : Ctx} {E B : Nat → Prop} {β : Nat → Nat} {env : Env} {r : HR} {vs : List Val} (hn : NdsIn E B r.ne r.nds 0) (hE : ∀ e, E e → ¬ (r.ne ≤ e ∧ e < r.ne + r.nds.length))
    {k : Nat} (hs : E r.s) (hk : isNew r = true → (env r.s).2.heap.size ≤ β k) (h : Chain X β r.nds env r.ne vs) : OkAt X (updl env r.ne vs) β r k := by
  have hl := h.length
  have hos : updl env r.ne vs r.s = env r.s := by
    have := hE _ hs
    rcases Nat.lt_or_ge r.s r.ne with h1 | h1
    · rw [updl_lt _ _ _ _ h1]
    · rw [updl_ge _ _ _ _ (by omega)]
  refine ⟨⟨vs, ?_, fun e => updl_twice vs env r.ne e⟩, fun hn => by rw [hos]; exact hk hn⟩
  refine Chain.congr (ne := r.ne) (j := 0) (E := E) (B := B) (fun _ _ => rfl) hn (fun e he => ?_) (fun e h1 h2 => by omega) h
  have := hE e he
  rcases Nat.lt_or_ge e r.ne with h1 | h1
  · rw [updl_lt _ _ _ _ h1]
  · rw [updl_ge _ _ _ _ (by omega)]
/-! what is known of untracked memory -/
theorem minY_congr {D D' : Nat → Bool} : ∀ (rs : List HR) (i : Nat) (y : Sy), (∀ j, i ≤ j → j < i + rs.length → D j = D' j) → minY D i rs y = minY D' i rs y
  | [], i, s, _ => rfl
  | r :: rs, i, s, h => by
    simp only [minY]
    rw [h i (by omega) (by simp), minY_congr rs (i + 1) _ (fun j h1 h2 => h j (by omega) (by simp; omega))]
theorem minY_append (D : Nat → Bool) : ∀ (as bs : List HR) (i : Nat) (y : Sy), minY D i (as ++ bs) y = minY D (i + as.length) bs (minY D i as y)
  | [], bs, i, s => by simp [minY]
  | a :: as, bs, i, s => by
    simp only [List.cons_append, minY, List.length_cons]
    rw [minY_append D as bs, show i + 1 + as.length = i + (as.length + 1) from by omega]
/-- Does it change what is known of untracked memory? -/
def hard (r : HR) : Bool := match r.eff with | .eff | .set .. => true | _ => false
theorem minY_same {D D' : Nat → Bool} : ∀ (rs : List HR) (i : Nat) (y : Sy), (∀ j r, rs[j]? = some r → hard r = true → D (i + j) = D' (i + j)) → minY D i rs y = minY D' i rs y
  | [], i, s, _ => rfl
  | r :: rs, i, s, h => by
    simp only [minY]
    have h0 := h 0 r rfl
    rw [Nat.add_zero] at h0
    have : yR (D i) s r = yR (D' i) s r := by
      unfold yR
      cases he : r.eff <;> simp only <;> rw [h0 (by simp [hard, he])]
    rw [this, minY_same (D := D) (D' := D') rs (i + 1) _ (fun j r' hj hh => by
      have := h (j + 1) r' (by simpa using hj) hh
      rw [show i + (j + 1) = i + 1 + j from by omega] at this
      exact this)]
theorem minY_nil {D : Nat → Bool} : ∀ (rs : List HR) (i : Nat) (y : Sy), (∀ j r, rs[j]? = some r → hard r = true → D (i + j) = false) → minY D i rs y = y
  | [], i, s, _ => rfl
  | r :: rs, i, s, h => by
    simp only [minY]
    have h0 := h 0 r rfl
    rw [Nat.add_zero] at h0
    have : yR (D i) s r = s := by
      unfold yR
      cases he : r.eff <;> simp only <;> rw [h0 (by simp [hard, he])] <;> rfl
    rw [this]
    exact minY_nil rs (i + 1) _ (fun j r' hj hh => by
      have := h (j + 1) r' (by simpa using hj) hh
      rw [show i + (j + 1) = i + 1 + j from by omega] at this
      exact this)
theorem minY_live {D : Nat → Bool} : ∀ (rs : List HR) (i : Nat) (y : Sy), (minY D i rs y).live = y.live
  | [], i, s => rfl
  | r :: rs, i, s => by
    simp only [minY]
    rw [minY_live rs]
    unfold yR
    cases r.eff <;> simp only <;> split <;> rfl
theorem minY_s {D : Nat → Bool} : ∀ (rs : List HR) (i : Nat) (y : Sy), (minY D i rs y).s = y.s ∨ ∃ j r, rs[j]? = some r ∧ D (i + j) = true ∧ r.eff = .eff ∧ (minY D i rs y).s = r.ne + r.nds.length - 1
  | [], i, s => .inl rfl
  | r :: rs, i, s => by
    simp only [minY]
    rcases minY_s (D := D) rs (i + 1) (yR (D i) s r) with h | ⟨j, r', h1, h2, h3⟩
    · by_cases hc : r.eff = .eff ∧ D i = true
      · right
        refine ⟨0, r, rfl, by simpa using hc.2, hc.1, ?_⟩
        rw [h]
        unfold yR
        rw [hc.1, hc.2]
        simp
      · left
        rw [h]
        unfold yR
        cases he : r.eff with
        | eff => simp only; rw [if_neg (fun hd => hc ⟨he, hd⟩)]
        | set k b => simp only; split <;> rfl
        | none => rfl
        | new b => rfl
    · exact .inr ⟨j + 1, r', by simpa using h1, by rw [show i + (j + 1) = i + 1 + j from by omega]; exact h2, h3⟩
theorem minY_ow {D : Nat → Bool} {k : Nat} : ∀ (rs : List HR) (i : Nat) (y : Sy), k ∈ (minY D i rs y).ow → k ∈ y.ow ∨ ∃ j r b, rs[j]? = some r ∧ D (i + j) = true ∧ r.eff = .set k b
  | [], i, s, h => .inl h
  | r :: rs, i, s, h => by
    simp only [minY] at h
    rcases minY_ow rs (i + 1) _ h with h | ⟨j, r', b, h1, h2, h3⟩
    · unfold yR at h
      cases he : r.eff with
      | eff =>
        rw [he] at h
        simp only at h
        split at h
        · split at h
          · cases h
          · exact .inl h
        · exact .inl h
      | set k' b =>
        rw [he] at h
        simp only at h
        split at h
        · rename_i hd
          rcases List.mem_cons.1 h with h | h
          · subst h; exact .inr ⟨0, r, b, rfl, by simpa using hd, he⟩
          · exact .inl h
        · exact .inl h
      | none => rw [he] at h; exact .inl h
      | new b => rw [he] at h; exact .inl h
    · exact .inr ⟨j + 1, r', b, by simpa using h1, by rw [show i + (j + 1) = i + 1 + j from by omega]; exact h2, h3⟩
end Go.Vc

/-
  The engine is sound, part 8b: what the tree of such a head says of each operation.
-/
namespace Go.Vc
open Go Go.RowKit
def SupE (ne0 : Nat) (rs : List HR) (D : Nat → Bool) (e : Nat) : Prop := e < ne0 ∨ ∃ j r, rs[j]? = some r ∧ D j = true ∧ r.ne ≤ e ∧ e < r.ne + r.nds.length
def SupB (nb0 : Nat) (rs : List HR) (D : Nat → Bool) (k : Nat) : Prop := k < nb0 ∨ ∃ j r, rs[j]? = some r ∧ D j = true ∧ isNew r = true ∧ k = nb0 + cntNew (rs.take j)
theorem allowE_sup {ne0 : Nat} {D : Nat → Bool} {e : Nat} : ∀ (rs : List HR) (i : Nat), allowE ne0 D e i rs = true → e < ne0 ∨ ∃ j r, rs[j]? = some r ∧ D (i + j) = true ∧ r.ne ≤ e ∧ e < r.ne + r.nds.length
  | [], i, h => by simp only [allowE, decide_eq_true_eq] at h; exact .inl h
  | r :: rs, i, h => by
    simp only [allowE, Bool.or_eq_true, Bool.and_eq_true, decide_eq_true_eq] at h
    rcases h with h | h
    · exact .inr ⟨0, r, rfl, by simpa using h.1.1, h.1.2, h.2⟩
    · rcases allowE_sup rs (i + 1) h with h1 | ⟨j, r', h1, h2, h3⟩
      · exact .inl h1
      · exact .inr ⟨j + 1, r', by simpa using h1, by rw [show i + (j + 1) = i + 1 + j from by omega]; exact h2, h3⟩
theorem allowB_sup {D : Nat → Bool} {k : Nat} : ∀ (rs : List HR) (nb i : Nat), allowB D k nb i rs = true → ∃ j r, rs[j]? = some r ∧ D (i + j) = true ∧ isNew r = true ∧ k = nb + cntNew (rs.take j)
  | [], nb, i, h => by simp [allowB] at h
  | r :: rs, nb, i, h => by
    simp only [allowB] at h
    cases he : r.eff with
    | new b =>
      simp only [he, Bool.or_eq_true, Bool.and_eq_true, beq_iff_eq] at h
      rcases h with h | h
      · exact ⟨0, r, rfl, by simpa using h.1, by simp [isNew, he], by simp [cntNew]; exact h.2⟩
      · obtain ⟨j, r', h1, h2, h3, h4⟩ := allowB_sup rs (nb + 1) (i + 1) h
        refine ⟨j + 1, r', by simpa using h1, by rw [show i + (j + 1) = i + 1 + j from by omega]; exact h2, h3, ?_⟩
        rw [h4, List.take_succ_cons, cntNew_cons]
        simp [isNew, he]; omega
    | none =>
      simp only [he] at h
      obtain ⟨j, r', h1, h2, h3, h4⟩ := allowB_sup rs nb (i + 1) h
      refine ⟨j + 1, r', by simpa using h1, by rw [show i + (j + 1) = i + 1 + j from by omega]; exact h2, h3, ?_⟩
      rw [h4, List.take_succ_cons, cntNew_cons]
      simp [isNew, he]
    | eff =>
      simp only [he] at h
      obtain ⟨j, r', h1, h2, h3, h4⟩ := allowB_sup rs nb (i + 1) h
      refine ⟨j + 1, r', by simpa using h1, by rw [show i + (j + 1) = i + 1 + j from by omega]; exact h2, h3, ?_⟩
      rw [h4, List.take_succ_cons, cntNew_cons]
      simp [isNew, he]
    | set k' b =>
      simp only [he] at h
      obtain ⟨j, r', h1, h2, h3, h4⟩ := allowB_sup rs nb (i + 1) h
      refine ⟨j + 1, r', by simpa using h1, by rw [show i + (j + 1) = i + 1 + j from by omega]; exact h2, h3, ?_⟩
      rw [h4, List.take_succ_cons, cntNew_cons]
      simp [isNew, he]
theorem take_some {α : Type} {l : List α} {i j : Nat} {x : α} (h : (l.take i)[j]? = some x) : l[j]? = some x ∧ j < i := by
  rw [List.getElem?_take] at h
  split at h
  · exact ⟨h, by assumption⟩
  · cases h
theorem SupE.take {ne0 : Nat} {rs : List HR} {D : Nat → Bool} {e i : Nat} (h : SupE ne0 (rs.take i) D e) : e < ne0 ∨ ∃ j r, j < i ∧ rs[j]? = some r ∧ D j = true ∧ r.ne ≤ e ∧ e < r.ne + r.nds.length := by
  rcases h with h | ⟨j, r, h1, h2⟩
  · exact .inl h
  · exact .inr ⟨j, r, (take_some h1).2, (take_some h1).1, h2⟩
theorem SupB.take {nb0 : Nat} {rs : List HR} {D : Nat → Bool} {k i : Nat} (h : SupB nb0 (rs.take i) D k) : k < nb0 ∨ ∃ j r, j < i ∧ rs[j]? = some r ∧ D j = true ∧ isNew r = true ∧ k = nb0 + cntNew (rs.take j) := by
  rcases h with h | ⟨j, r, h1, h2, h3, h4⟩
  · exact .inl h
  · refine .inr ⟨j, r, (take_some h1).2, (take_some h1).1, h2, h3, ?_⟩
    rw [h4, List.take_take, Nat.min_eq_left (Nat.le_of_lt (take_some h1).2)]
theorem okNds_in {ne0 nb0 : Nat} {rs : List HR} {D : Nat → Bool} {ne : Nat} : ∀ (ns : List Nd) (j : Nat), okNds ne0 nb0 rs D ne ns j = true → NdsIn (SupE ne0 rs D) (SupB nb0 rs D) ne ns j
  | [], _, _ => trivial
  | n :: ns, j, h => by
    simp only [okNds, Bool.and_eq_true, List.all_eq_true] at h
    refine ⟨fun e he => ?_, fun b hb => ?_, okNds_in ns (j + 1) h.2⟩
    · have := h.1.1 e he
      simp only [supE, Bool.or_eq_true, Bool.and_eq_true, decide_eq_true_eq] at this
      rcases this with h1 | h1
      · exact .inl (by simpa [SupE] using allowE_sup rs 0 h1)
      · exact .inr h1
    · have := h.1.2 b hb
      simp only [supB, Bool.or_eq_true, decide_eq_true_eq] at this
      rcases this with (h1 | h1) | h1
      · exact .inl h1
      · exact .inr (by simpa using allowB_sup rs nb0 0 h1)
      · simp at h1
theorem supE_in {ne0 : Nat} {rs : List HR} {D : Nat → Bool} {ne len e : Nat} (h : supE ne0 rs D ne len e = true) : SupE ne0 rs D e ∨ (ne ≤ e ∧ e < ne + len) := by
  simp only [supE, Bool.or_eq_true, Bool.and_eq_true, decide_eq_true_eq] at h
  rcases h with h1 | h1
  · exact .inl (by simpa [SupE] using allowE_sup rs 0 h1)
  · exact .inr h1
theorem supB_in {nb0 : Nat} {rs : List HR} {D : Nat → Bool} {own : Option Nat} {k : Nat} (h : supB nb0 rs D own k = true) : SupB nb0 rs D k ∨ own = some k := by
  simp only [supB, Bool.or_eq_true, decide_eq_true_eq, beq_iff_eq] at h
  rcases h with (h1 | h1) | h1
  · exact .inl (.inl h1)
  · exact .inl (.inr (by simpa using allowB_sup rs nb0 0 h1))
  · exact .inr h1
abbrev junked (ops : Array Oper) (bf : List Nat) (σ : St) (i : Nat) : St := { σ with slots := junkSlots (clash ops.toList bf i) 0 σ.slots }
/-- The state from which the i-th operation is run. -/
abbrev headAt (A : Ann) (ops : Array Oper) (bf : List Nat) (σ : St) (out : List HR) (i ne : Nat) (o : Oper) : St :=
  headSt A (junked ops bf σ i) (out.take i) (bf.getD i 0).testBit ne o (seesOrd A ops.toList bf i o)
/-- What is known of the i-th operation's result. -/
structure Fact (X : Ctx) (A : Ann) (ops : Array Oper) (bf : List Nat) (σ : St) (out : List HR) (i : Nat) (o : Oper) (r : HR) : Prop where
  dst : r.dst = o.dst
  ne : r.ne = σ.ne + cntNe (out.take i)
  nds : NdsIn (SupE σ.ne (out.take i) (bf.getD i 0).testBit) (SupB σ.blocks.length (out.take i) (bf.getD i 0).testBit) r.ne r.nds 0
  sE : ∀ e ∈ svE r.slot.s, SupE σ.ne (out.take i) (bf.getD i 0).testBit e ∨ (r.ne ≤ e ∧ e < r.ne + r.nds.length)
  sB : ∀ b ∈ svB r.slot.s, SupB σ.blocks.length (out.take i) (bf.getD i 0).testBit b ∨ (isNew r = true ∧ b = σ.blocks.length + cntNew (out.take i))
  gE : ∀ e ∈ gE r.slot.g, SupE σ.ne (out.take i) (bf.getD i 0).testBit e
  gB : ∀ b ∈ gB r.slot.g, SupB σ.blocks.length (out.take i) (bf.getD i 0).testBit b
  cE : ∀ b, (r.eff = .new b ∨ ∃ k, r.eff = .set k b) → ∀ e ∈ contE b.cont, SupE σ.ne (out.take i) (bf.getD i 0).testBit e ∨ (r.ne ≤ e ∧ e < r.ne + r.nds.length)
  cB : ∀ b, (r.eff = .new b ∨ ∃ k, r.eff = .set k b) → ∀ c ∈ contB b.cont, SupB σ.blocks.length (out.take i) (bf.getD i 0).testBit c
  kB : ∀ k b, r.eff = .set k b → SupB σ.blocks.length (out.take i) (bf.getD i 0).testBit k
  sS : SupE σ.ne (out.take i) (bf.getD i 0).testBit r.s
  s : r.s = (headAt A ops bf σ out i r.ne o).sy.s
  isSet : (∃ k b, r.eff = .set k b) → isStore o = true
  isEf : r.eff = .eff → isEff A o = true ∧ r.nds.length = 1
  isNw : isNew r = true → isNewOp o = true
  md : r.eff = .eff → isMd A o = true → newOrd ops.toList bf i = true
  op : ∃ g r0, guardOf ops (headAt A ops bf σ out i r.ne o) o = some g ∧ step X.P A (headAt A ops bf σ out i r.ne o) g o = some r0 ∧ mkHR A o g r.ne (headAt A ops bf σ out i r.ne o).blocks.length (headAt A ops bf σ out i r.ne o).sy.s r0 = some r
theorem headSt_len (A : Ann) (σ : St) (rs : List HR) (D : Nat → Bool) (ne : Nat) (o : Oper) (lv : Bool) : (headSt A σ rs D ne o lv).blocks.length = σ.blocks.length + cntNew rs := by
  simp only [headSt]
  split
  · rw [minSt_eq]; simp only; rw [minB_len]
  · rw [minSt_eq]; simp only [List.length_map]; rw [minB_len]
theorem mkHR_inv {A : Ann} {o : Oper} {g : List (At × Bool)} {ne nb s : Nat} {r0 : Res} {r : HR} (h : mkHR A o g ne nb s r0 = some r) :
    (∃ x, r0.fin = .val x ∧ r = ⟨o.dst, ⟨x, g⟩, ne, gmap g r0.nds, .none, s⟩) ∨
    (∃ b, r0.fin = .newb b ∧ g = [] ∧ isNewOp o = true ∧ r = ⟨o.dst, ⟨.x (.p nb 0), []⟩, ne, r0.nds, .new b, s⟩) ∨
    (∃ b len, r0.fin = .newsl b len ∧ g = [] ∧ isNewOp o = true ∧ r = ⟨o.dst, ⟨.x (.sl nb 0 len len), []⟩, ne, r0.nds, .new b, s⟩) ∨
    (∃ k b, r0.fin = .setb k b ∧ g = [] ∧ isStore o = true ∧ r = ⟨o.dst, ⟨.x (.c undef), []⟩, ne, r0.nds, .set k b, s⟩) ∨
    (∃ x md n, r0.fin = .eff x md ∧ isEff A o = true ∧ (md = true → isMd A o = true) ∧ r0.nds = [n] ∧ n.sync? = some s ∧ r = ⟨o.dst, ⟨x, g⟩, ne, gmap g r0.nds, .eff, s⟩) := by
  unfold mkHR at h
  simp only at h
  have hnil : ∀ {g : List (At × Bool)}, g.isEmpty = true → g = [] := fun h => List.isEmpty_iff.1 h
  split at h
  · rename_i x hf; cases h; exact .inl ⟨x, hf, rfl⟩
  · rename_i b hf
    split at h
    · rename_i hg
      simp only [Bool.and_eq_true] at hg
      have hgn := hnil hg.1
      subst hgn
      cases h
      exact .inr (.inl ⟨b, hf, rfl, hg.2, by simp⟩)
    · cases h
  · rename_i b len hf
    split at h
    · rename_i hg
      simp only [Bool.and_eq_true] at hg
      have hgn := hnil hg.1
      subst hgn
      cases h
      exact .inr (.inr (.inl ⟨b, len, hf, rfl, hg.2, by simp⟩))
    · cases h
  · rename_i k b hf
    split at h
    · rename_i hg
      simp only [Bool.and_eq_true] at hg
      have hgn := hnil hg.1
      subst hgn
      cases h
      exact .inr (.inr (.inr (.inl ⟨k, b, hf, rfl, hg.2, by simp⟩)))
    · cases h
  · rename_i x md hf
    split at h
    · rename_i hg
      simp only [Bool.and_eq_true, Bool.or_eq_true, Bool.not_eq_true'] at hg
      cases h
      obtain ⟨n, hn, hs⟩ := effOk_spec hg.2
      refine .inr (.inr (.inr (.inr ⟨x, md, n, hf, hg.1.1, fun hm => ?_, hn, hs, rfl⟩)))
      rcases hg.1.2 with h | h
      · rw [hm] at h; cases h
      · exact h
    · cases h
theorem fact_of {X : Ctx} {A : Ann} {ops : Array Oper} {bf : List Nat} {σ : St} {out : List HR} {i : Nat} {o : Oper} {r : HR}
    (h : headOp X.P A ops bf i (junked ops bf σ i) (out.take i) (σ.ne + cntNe (out.take i)) o = some r) : Fact X A ops bf σ out i o r := by
  unfold headOp at h
  simp only at h
  split at h
  · cases h
  rename_i g hg
  split at h
  · cases h
  rename_i r0 hr0
  split at h
  · cases h
  rename_i hr hmk
  split at h
  · cases h
  rename_i hmd
  split at h
  · rename_i hok
    cases h
    have hinv := mkHR_inv hmk
    have hne : r.ne = σ.ne + cntNe (out.take i) ∧ r.dst = o.dst ∧ r.s = (headAt A ops bf σ out i (σ.ne + cntNe (out.take i)) o).sy.s := by
      rcases hinv with ⟨x, _, he⟩ | ⟨b, _, _, _, he⟩ | ⟨b, len, _, _, _, he⟩ | ⟨k, b, _, _, _, he⟩ | ⟨x, md, n, _, _, _, _, _, he⟩ <;> exact ⟨by rw [he], by rw [he], by rw [he]⟩
    rw [headSt_len] at hok
    simp only at hok
    unfold okHR at hok
    simp only [Bool.and_eq_true, List.all_eq_true] at hok
    obtain ⟨⟨⟨⟨⟨k1, k2⟩, k3⟩, k4⟩, k6⟩, k5⟩ := hok
    have none_ : ∀ {k : Nat}, supB σ.blocks.length (out.take i) (bf.getD i 0).testBit none k = true → SupB σ.blocks.length (out.take i) (bf.getD i 0).testBit k := fun hk => by
      rcases supB_in hk with h | h
      · exact h
      · cases h
    have zero_ : ∀ {e : Nat}, supE σ.ne (out.take i) (bf.getD i 0).testBit r.ne 0 e = true → SupE σ.ne (out.take i) (bf.getD i 0).testBit e := fun he => by
      rcases supE_in he with h | h
      · exact h
      · omega
    refine ⟨hne.2.1, hne.1, okNds_in _ _ k1, fun e he => supE_in (k2 e (by simp [he])), ?_, fun e he => zero_ (k3 e he), fun b hb => none_ (k4 b hb), ?_, ?_, ?_, zero_ k6, by rw [hne.1]; exact hne.2.2, ?_, ?_, ?_, ?_, ?_⟩
    · intro b hb
      cases hef : r.eff with
      | none => rw [hef] at k5; simp only [List.all_eq_true] at k5; exact .inl (none_ (k5 b hb))
      | eff => rw [hef] at k5; simp only [List.all_eq_true] at k5; exact .inl (none_ (k5 b hb))
      | new b' =>
        rw [hef] at k5
        simp only [Bool.and_eq_true, List.all_eq_true] at k5
        rcases supB_in (k5.1.1 b hb) with h | h
        · exact .inl h
        · exact .inr ⟨by simp [isNew, hef], by simpa using h.symm⟩
      | set k' b' =>
        rw [hef] at k5
        simp only [Bool.and_eq_true, List.all_eq_true] at k5
        exact .inl (none_ (k5.1.1.1 b hb))
    · rintro b (hef | ⟨k, hef⟩) e he
      · rw [hef] at k5
        simp only [Bool.and_eq_true, List.all_eq_true] at k5
        exact supE_in (k5.1.2 e he)
      · rw [hef] at k5
        simp only [Bool.and_eq_true, List.all_eq_true] at k5
        exact supE_in (k5.1.1.2 e he)
    · rintro b (hef | ⟨k, hef⟩) c hc
      · rw [hef] at k5
        simp only [Bool.and_eq_true, List.all_eq_true] at k5
        exact none_ (k5.2 c hc)
      · rw [hef] at k5
        simp only [Bool.and_eq_true, List.all_eq_true] at k5
        exact none_ (k5.1.2 c hc)
    · intro k b hef
      rw [hef] at k5
      simp only [Bool.and_eq_true, List.all_eq_true] at k5
      exact none_ k5.2
    · rintro ⟨k, b, hef⟩
      rcases hinv with ⟨x, _, he⟩ | ⟨b, _, _, _, he⟩ | ⟨b, len, _, _, _, he⟩ | ⟨k, b, _, _, hst, he⟩ | ⟨x, md, n, _, _, _, _, _, he⟩ <;> first | exact hst | (rw [he] at hef; cases hef)
    · intro hef
      rcases hinv with ⟨x, _, he⟩ | ⟨b, _, _, _, he⟩ | ⟨b, len, _, _, _, he⟩ | ⟨k, b, _, _, hst, he⟩ | ⟨x, md, n, _, he1, _, he2, _, he⟩ <;> first | (rw [he] at hef; cases hef; done) | exact ⟨he1, by rw [he, he2]; rfl⟩
    · intro hef
      rcases hinv with ⟨x, _, he⟩ | ⟨b, _, _, hnw, he⟩ | ⟨b, len, _, _, hnw, he⟩ | ⟨k, b, _, _, hst, he⟩ | ⟨x, md, n, _, he1, _, he2, _, he⟩ <;> first | exact hnw | (rw [he] at hef; cases hef)
    · intro hef hm
      simp only [mdBad, hef, hm, Bool.true_and, Bool.not_eq_true', Bool.not_eq_false] at hmd
      exact hmd
    · exact ⟨g, r0, by rw [hne.1]; exact hg, by rw [hne.1]; exact hr0, by rw [hne.1]; exact hmk⟩
  · cases h
theorem headList_spec {X : Ctx} {A : Ann} {ops : Array Oper} {bf : List Nat} {σ : St} {out : List HR} : ∀ (l : List Oper) (i : Nat) (rs : List HR), rs.length = i → headList X.P A ops bf σ l i rs (σ.ne + cntNe rs) = some out →
    (∃ tl, out = rs ++ tl) ∧ out.length = i + l.length ∧ ∀ j o, l[j]? = some o → ∃ r, out[i + j]? = some r ∧ Fact X A ops bf σ out (i + j) o r
  | [], i, rs, hi, h => by
    simp only [headList, Option.some.injEq] at h
    subst h
    exact ⟨⟨[], by simp⟩, by simp [hi], fun j o hj => by simp at hj⟩
  | o :: l, i, rs, hi, h => by
    simp only [headList] at h
    split at h
    · cases h
    rename_i r hr
    have hne : σ.ne + cntNe rs + r.nds.length = σ.ne + cntNe (rs ++ [r]) := by rw [cntNe_append, cntNe_one]; omega
    rw [hne] at h
    obtain ⟨⟨tl, h1⟩, h2, h3⟩ := headList_spec l (i + 1) (rs ++ [r]) (by simp [hi]) h
    refine ⟨⟨r :: tl, by rw [h1]; simp⟩, by rw [h2]; simp; omega, fun j o' hj => ?_⟩
    cases j with
    | zero =>
      simp at hj
      subst hj
      have ht : out.take i = rs := by rw [h1, List.append_assoc, List.take_append_of_le_length (by omega), List.take_of_length_le (by omega)]
      refine ⟨r, ?_, ?_⟩
      · rw [h1, List.append_assoc, Nat.add_zero, List.getElem?_append_right (by omega)]
        simp [hi]
      · refine fact_of ?_
        rw [Nat.add_zero, ht]; exact hr
    | succ j =>
      obtain ⟨r', h4, h5⟩ := h3 j o' (by simpa using hj)
      rw [show i + 1 + j = i + (j + 1) from by omega] at h4 h5
      exact ⟨r', h4, h5⟩
section
variable {X : Ctx} {A : Ann} {ops : Array Oper} {bf : List Nat} {σ : St} {ls : Nat → List Value → World → Prop}
/-- All the results' facts. -/
def Facts (X : Ctx) (A : Ann) (ops : Array Oper) (bf : List Nat) (σ : St) (out : List HR) : Prop := out.length = ops.toList.length ∧ ∀ i o, ops.toList[i]? = some o → ∃ r, out[i]? = some r ∧ Fact X A ops bf σ out i o r
theorem Facts.get {out : List HR} (F : Facts X A ops bf σ out) {i : Nat} {r : HR} (h : out[i]? = some r) : ∃ o, ops.toList[i]? = some o ∧ Fact X A ops bf σ out i o r := by
  have hl := (List.getElem?_eq_some_iff.1 h).1
  have : i < ops.toList.length := by rw [← F.1]; exact hl
  obtain ⟨r', h1, h2⟩ := F.2 i _ (List.getElem?_eq_getElem this)
  rw [h] at h1
  cases h1
  exact ⟨_, List.getElem?_eq_getElem this, h2⟩
theorem Facts.ne_le {out : List HR} (F : Facts X A ops bf σ out) {i j : Nat} {r s : HR} (hi : out[i]? = some r) (hj : out[j]? = some s) (hij : i < j) : r.ne + r.nds.length ≤ s.ne := by
  obtain ⟨_, _, f1⟩ := F.get hi
  obtain ⟨_, _, f2⟩ := F.get hj
  rw [f1.ne, f2.ne]
  have := cntNe_lt hi hij
  omega
theorem Facts.ne_ge {out : List HR} (F : Facts X A ops bf σ out) {i : Nat} {r : HR} (hi : out[i]? = some r) : σ.ne ≤ r.ne := by
  obtain ⟨_, _, f1⟩ := F.get hi
  rw [f1.ne]; omega
theorem Facts.supE_lt {out : List HR} (F : Facts X A ops bf σ out) {i : Nat} {r : HR} (hi : out[i]? = some r) {D : Nat → Bool} {e : Nat} (h : SupE σ.ne (out.take i) D e) : e < r.ne := by
  rcases h.take with h | ⟨j, s, h1, h2, h3, h4, h5⟩
  · exact Nat.lt_of_lt_of_le h (F.ne_ge hi)
  · exact Nat.lt_of_lt_of_le h5 (F.ne_le h2 hi h1)
theorem supB_lt {out : List HR} {i : Nat} {D : Nat → Bool} {k : Nat} {nb0 : Nat} (h : SupB nb0 (out.take i) D k) : k < nb0 + cntNew (out.take i) := by
  rcases h.take with h | ⟨j, s, h1, h2, h3, h4, h5⟩
  · omega
  · rw [h5]; have := cntNew_lt h2 h4 h1; omega
/-- The i-th result's nodes have their values in env. -/
abbrev Okk (X : Ctx) (σ : St) (out : List HR) (env : Env) (β : Nat → Nat) (i : Nat) (r : HR) : Prop := OkAt X env β r (σ.blocks.length + cntNew (out.take i))
/-- What the tree says, under whatever values. -/
theorem chain_dyn {out : List HR} (F : Facts X A ops bf σ out) {k : T} : ∀ (l rs : List HR) (env1 : Env) (β1 : Nat → Nat), out = rs ++ l →
    (chainAll l k).den X env1 (σ.ne + cntNe rs) β1 (σ.blocks.length + cntNew rs) ls →
    ∀ (env : Env) (β : Nat → Nat), (∀ e, e < σ.ne + cntNe rs → env1 e = env e) → (∀ k, k < σ.blocks.length + cntNew rs → β1 k = β k) →
      (∀ j r, rs.length ≤ j → out[j]? = some r → (∀ j' r', rs.length ≤ j' → j' < j → out[j']? = some r' → Okk X σ out env β j' r') → PreChain X β r.nds env r.ne) ∧
      ((∀ j r, rs.length ≤ j → out[j]? = some r → Okk X σ out env β j r) → ∃ envf βf, (∀ e, e < σ.ne + cntNe out → envf e = env e) ∧ (∀ k, k < σ.blocks.length + cntNew out → βf k = β k) ∧
        k.den X envf (σ.ne + cntNe out) βf (σ.blocks.length + cntNew out) ls)
  | [], rs, env1, β1, ho, hden, env, β, he, hb => by
    rw [List.append_nil] at ho
    subst ho
    refine ⟨fun j r hj hr => ?_, fun _ => ⟨env1, β1, he, hb, hden⟩⟩
    rw [List.getElem?_eq_none (by omega)] at hr; cases hr
  | r :: l, rs, env1, β1, ho, hden, env, β, he, hb => by
    have ho' : out = (rs ++ [r]) ++ l := by rw [ho]; simp
    simp only [chainAll] at hden
    have hne : σ.ne + cntNe rs + r.nds.length = σ.ne + cntNe (rs ++ [r]) := by rw [cntNe_append, cntNe_one]; omega
    have hout : out[rs.length]? = some r := by
      rw [ho, List.getElem?_append_right (Nat.le_refl _)]
      simp
    have htake : out.take rs.length = rs := by rw [ho]; simp
    obtain ⟨o', hoo, f⟩ := F.get hout
    have hrne : r.ne = σ.ne + cntNe rs := by rw [f.ne, htake]
    have hnds := f.nds
    rw [htake] at hnds
    have hE : ∀ e, SupE σ.ne rs (bf.getD rs.length 0).testBit e → env1 e = env e := fun e h => he e (by
      have := F.supE_lt hout (D := (bf.getD rs.length 0).testBit) (e := e) (by rw [htake]; exact h)
      omega)
    have hB : ∀ k, SupB σ.blocks.length rs (bf.getD rs.length 0).testBit k → β1 k = β k := fun k h => hb k (by
      have := supB_lt (out := out) (i := rs.length) (D := (bf.getD rs.length 0).testBit) (k := k) (nb0 := σ.blocks.length) (by rw [htake]; exact h)
      rw [htake] at this; exact this)
    obtain ⟨hp, hk⟩ := den_ndChain _ hden
    rw [← hrne] at hp hk
    have hpre : PreChain X β r.nds env r.ne := PreChain.congr (ne := r.ne) (j := 0) hB hnds hE (fun e h1 h2 => by omega) hp
    have hlr : (rs ++ [r]).length = rs.length + 1 := by simp
    -- behind this operation
    have hnext : Okk X σ out env β rs.length r →
        (∀ j r', rs.length + 1 ≤ j → out[j]? = some r' → (∀ j' r'', rs.length + 1 ≤ j' → j' < j → out[j']? = some r'' → Okk X σ out env β j' r'') → PreChain X β r'.nds env r'.ne) ∧
        ((∀ j r', rs.length + 1 ≤ j → out[j]? = some r' → Okk X σ out env β j r') → ∃ envf βf, (∀ e, e < σ.ne + cntNe out → envf e = env e) ∧ (∀ k, k < σ.blocks.length + cntNew out → βf k = β k) ∧
          k.den X envf (σ.ne + cntNe out) βf (σ.blocks.length + cntNew out) ls) := by
      rintro ⟨⟨vs, hc, hv⟩, hnb⟩
      have hc1 : Chain X β1 r.nds env1 r.ne vs := Chain.congr (ne := r.ne) (j := 0) (fun k h => (hB k h).symm) hnds (fun e h => (hE e h).symm) (fun e h1 h2 => by omega) hc
      have h1 := hk vs hc1
      have hlen := hc.length
      have hcne : r.ne + r.nds.length = σ.ne + cntNe (rs ++ [r]) := by rw [← hne, hrne]
      rw [hcne] at h1
      have hag : ∀ e, e < σ.ne + cntNe (rs ++ [r]) → updl env1 r.ne vs e = env e := fun e he' => by
        rcases Nat.lt_or_ge e r.ne with h2 | h2
        · rw [updl_lt _ _ _ _ h2]; exact he e (by omega)
        · rw [← hv e]
          have hkk : e - r.ne < vs.length := by omega
          have e1 := updl_get vs env1 r.ne (e - r.ne) hkk
          have e2 := updl_get vs env r.ne (e - r.ne) hkk
          rw [show r.ne + (e - r.ne) = e from by omega] at e1 e2
          rw [e1, e2]
      cases hef : r.eff with
      | new b =>
        rw [hef] at h1
        simp only [T.den] at h1
        have hnbb : σ.blocks.length + cntNew rs + 1 = σ.blocks.length + cntNew (rs ++ [r]) := by rw [cntNew_append, cntNew_cons]; simp [isNew, hef, cntNew]; omega
        have hs : updl env1 r.ne vs r.s = env r.s := by
          have := F.supE_lt hout f.sS
          exact hag r.s (by omega)
        have h2 := h1 (β (σ.blocks.length + cntNew rs)) (by
          have := hnb (by simp [isNew, hef])
          rw [htake] at this
          rw [hs]; exact this)
        rw [hnbb] at h2
        have := chain_dyn F l (rs ++ [r]) _ _ ho' h2 env β hag fun k hk' => by
          by_cases hkk : k = σ.blocks.length + cntNew rs
          · subst hkk; rw [upd_same]
          · rw [upd_ne _ _ hkk]; exact hb k (by omega)
        rw [hlr] at this
        exact this
      | none =>
        rw [hef] at h1
        have hnbb : σ.blocks.length + cntNew rs = σ.blocks.length + cntNew (rs ++ [r]) := by rw [cntNew_append, cntNew_cons]; simp [isNew, hef, cntNew]
        simp only at h1
        rw [hnbb] at h1
        have := chain_dyn F l (rs ++ [r]) _ _ ho' h1 env β hag fun k hk' => hb k (by omega)
        rw [hlr] at this
        exact this
      | eff =>
        rw [hef] at h1
        have hnbb : σ.blocks.length + cntNew rs = σ.blocks.length + cntNew (rs ++ [r]) := by rw [cntNew_append, cntNew_cons]; simp [isNew, hef, cntNew]
        simp only at h1
        rw [hnbb] at h1
        have := chain_dyn F l (rs ++ [r]) _ _ ho' h1 env β hag fun k hk' => hb k (by omega)
        rw [hlr] at this
        exact this
      | set k' b =>
        rw [hef] at h1
        have hnbb : σ.blocks.length + cntNew rs = σ.blocks.length + cntNew (rs ++ [r]) := by rw [cntNew_append, cntNew_cons]; simp [isNew, hef, cntNew]
        simp only at h1
        rw [hnbb] at h1
        have := chain_dyn F l (rs ++ [r]) _ _ ho' h1 env β hag fun k hk' => hb k (by omega)
        rw [hlr] at this
        exact this
    refine ⟨fun j r' hj hr' hok => ?_, fun hok => ?_⟩
    · rcases Nat.eq_or_lt_of_le hj with h | h
      · subst h
        rw [hout] at hr'
        cases hr'
        exact hpre
      · exact (hnext (hok rs.length r (Nat.le_refl _) h hout)).1 j r' h hr' fun j' r'' h1 h2 h3 => hok j' r'' (by omega) h2 h3
    · exact (hnext (hok rs.length r (Nat.le_refl _) hout)).2 fun j r' h1 h2 => hok j r' (by omega) h2
end
end Go.Vc

/-
  The engine is sound, part 8c: what holds when some of the operations are done.
-/
namespace Go.Vc
open Go Go.RowKit
def addD (D : Nat → Bool) (i : Nat) : Nat → Bool := fun j => D j || decide (j = i)
theorem addD_self (D : Nat → Bool) (i : Nat) : addD D i i = true := by simp [addD]
theorem addD_of {D : Nat → Bool} {i j : Nat} (h : D j = true) : addD D i j = true := by simp [addD, h]
theorem addD_ne {D : Nat → Bool} {i j : Nat} (h : j ≠ i) : addD D i j = D j := by simp [addD, h]
theorem addD_or {D : Nat → Bool} {i j : Nat} (h : addD D i j = true) : D j = true ∨ j = i := by simpa [addD] using h
theorem minB_keep {D : Nat → Bool} {k : Nat} {x : Option Blk} : ∀ (rs : List HR) (i : Nat) (s : List (Option Blk)), (∀ j r k' b, rs[j]? = some r → D (i + j) = true → k' = k → r.eff ≠ .set k' b) → s[k]? = some x → (minB D i rs s)[k]? = some x
  | [], i, s, _, h => h
  | r :: rs, i, s, hn, h => by
    have hrest : ∀ (j : Nat) (r' : HR) (k' : Nat) (b : Blk), rs[j]? = some r' → D (i + 1 + j) = true → k' = k → r'.eff ≠ .set k' b := fun j r' k' b hj hd hkk =>
      hn (j + 1) r' k' b (by simpa using hj) (by rw [show i + (j + 1) = i + 1 + j from by omega]; exact hd) hkk
    simp only [minB]
    refine minB_keep rs (i + 1) _ hrest ?_
    cases he : r.eff with
    | none => exact h
    | eff => exact h
    | new b => simp only; rw [List.getElem?_append_left (List.getElem?_eq_some_iff.1 h).1]; exact h
    | set k' b =>
      simp only
      split
      · rename_i hd
        by_cases hkk : k' = k
        · exact absurd he (hn 0 r k' b rfl (by simpa using hd) hkk)
        · rw [List.getElem?_set_ne hkk]; exact h
      · exact h
theorem minB_same {D D' : Nat → Bool} : ∀ (rs : List HR) (i : Nat) (s : List (Option Blk)), (∀ j r, rs[j]? = some r → (isNew r = true ∨ ∃ k b, r.eff = .set k b) → D (i + j) = D' (i + j)) → minB D i rs s = minB D' i rs s
  | [], i, s, _ => rfl
  | r :: rs, i, s, h => by
    simp only [minB]
    have h0 := h 0 r rfl
    rw [Nat.add_zero] at h0
    have hrest := minB_same (D := D) (D' := D') rs (i + 1)
    have hr : ∀ (j : Nat) (r' : HR), rs[j]? = some r' → (isNew r' = true ∨ ∃ k b, r'.eff = .set k b) → D (i + 1 + j) = D' (i + 1 + j) := fun j r' hj hh => by
      have := h (j + 1) r' (by simpa using hj) hh
      rw [show i + (j + 1) = i + 1 + j from by omega] at this
      exact this
    cases he : r.eff with
    | none => exact hrest _ hr
    | eff => exact hrest _ hr
    | new b => simp only; rw [h0 (.inl (by simp [isNew, he]))]; exact hrest _ hr
    | set k b => simp only; rw [h0 (.inr ⟨k, b, he⟩)]; exact hrest _ hr
section
variable {X : Ctx} {env env' : Env} {β β' : Nat → Nat} {w : World} {blocks : List (Option Blk)} {gl : List (Nat × Nat)}
/-- Less of memory. -/
theorem Mem.sub {y y' : Sy} {blocks' : List (Option Blk)} (h : Mem X y blocks gl env β w) (hsub : ∀ (k : Nat) (b : Blk), blocks'[k]? = some (some b) → blocks[k]? = some (some b))
    (hy : y'.live = true → y.live = true ∧ y'.s = y.s ∧ y'.ow = y.ow) (hsz : (env y'.s).2.heap.size ≤ w.heap.size) : Mem X y' blocks' gl env β w where
  blk := fun k b hk => h.blk k b (hsub k b hk)
  inh := fun k b hk => h.inh k b (hsub k b hk)
  own := fun k b hk => h.own k b (hsub k b hk)
  apart := fun j k bj bk hjk hj hk => h.apart j k bj bk hjk (hsub j bj hj) (hsub k bk hk)
  glob := h.glob
  past := fun hl => by
    obtain ⟨h1, h2, h3⟩ := hy hl
    rw [h2, h3]
    exact h.past h1
  wksz := hsz
  keep := h.keep
  sz0 := h.sz0
  os := h.os
  tape := h.tape
  output := h.output
theorem FrmOk.agree {slots : List Slot} {a : Act} (h : FrmOk env β slots a) (hs : ∀ (t : Nat) (sl : Slot), slots[t]? = some sl → (∀ e ∈ svE sl.s, env e = env' e) ∧ (∀ b ∈ svB sl.s, β b = β' b) ∧ (∀ e ∈ gE sl.g, env e = env' e) ∧ ∀ b ∈ gB sl.g, β b = β' b) :
    FrmOk env' β' slots a := by
  intro t sl hsl hok
  obtain ⟨w1, w2, w3, w4⟩ := hs t sl hsl
  obtain ⟨h1, h2⟩ := h t sl hsl hok
  have hc : conds env β sl.g ↔ conds env' β' sl.g := conds_congr w3 w4
  rw [SV.den_congr w1 w2, hc] at h1
  rw [hc] at h2
  exact ⟨h1, h2⟩
end
section
variable {X : Ctx} {env : Env} {β : Nat → Nat} {w : World} {blocks : List (Option Blk)} {gl : List (Nat × Nat)}
theorem Mem.sub' {y y' : Sy} {blocks' : List (Option Blk)} (h : Mem X y blocks gl env β w) (hsub : ∀ (k : Nat) (b : Blk), blocks'[k]? = some (some b) → blocks[k]? = some (some b))
    (hy : y'.live = true → ∀ b, b < (env y'.s).2.heap.size → b ∉ y'.ow.map β → w.heap[b]? = (env y'.s).2.heap[b]?) (hsz : (env y'.s).2.heap.size ≤ w.heap.size) : Mem X y' blocks' gl env β w where
  blk := fun k b hk => h.blk k b (hsub k b hk)
  inh := fun k b hk => h.inh k b (hsub k b hk)
  own := fun k b hk => h.own k b (hsub k b hk)
  apart := fun j k bj bk hjk hj hk => h.apart j k bj bk hjk (hsub j bj hj) (hsub k bk hk)
  glob := h.glob
  past := hy
  wksz := hsz
  keep := h.keep
  sz0 := h.sz0
  os := h.os
  tape := h.tape
  output := h.output
end
/-- What is known of the region. -/
structure Reg (X : Ctx) (A : Ann) (ops : Array Oper) (bf : List Nat) (σ : St) (env0 : Env) (β0 : Nat → Nat) (out : List HR) : Prop where
  F : Facts X A ops bf σ out
  wf : wf σ = true
  dist : ∀ (i j : Nat) (o o' : Oper) (t : Nat), ops.toList[i]? = some o → ops.toList[j]? = some o' → o.dst = some t → o'.dst = some t → i = j
  lt : ∀ i, bf.getD i 0 < 2 ^ i
  mem : ∀ (i j : Nat) (o o' : Oper), ops.toList[i]? = some o → ops.toList[j]? = some o' → isMem A o = true → isMem A o' = true → (isStore o = true ∨ isStore o' = true ∨ (isEff A o = true ∧ isEff A o' = true)) → j < i → isLd A o' = false → (bf.getD i 0).testBit j = true
  ld : ∀ (i j : Nat) (o : Oper) (r : HR) (k : Nat) (b : Blk), ops.toList[j]? = some o → isLd A o = true → out[i]? = some r → r.eff = .set k b → j < i → (bf.getD i 0).testBit j = true ∨ σ.blocks.length + cntNew (out.take j) ≤ k
  pre : ∀ (env : Env) (β : Nat → Nat), (∀ e, e < σ.ne → env0 e = env e) → (∀ k, k < σ.blocks.length → β0 k = β k) → ∀ (j : Nat) (r : HR), out[j]? = some r →
    (∀ (j' : Nat) (r' : HR), j' < j → out[j']? = some r' → Okk X σ out env β j' r') → PreChain X β r.nds env r.ne
def Closed (bf : List Nat) (D : Nat → Bool) : Prop := ∀ i j, D i = true → (bf.getD i 0).testBit j = true → D j = true
section
variable {X : Ctx} {A : Ann} {ops : Array Oper} {bf : List Nat} {σ : St} {env0 : Env} {β0 : Nat → Nat} {out : List HR} {D : Nat → Bool} {i : Nat}
abbrev nbOf (σ : St) (out : List HR) (i : Nat) : Nat := σ.blocks.length + cntNew (out.take i)
theorem SupE.of (hC : ∀ j, (bf.getD i 0).testBit j = true → D j = true) {e : Nat} (h : SupE σ.ne (out.take i) (bf.getD i 0).testBit e) : SupE σ.ne out D e := by
  rcases h.take with h | ⟨j, r, _, h2, h3, h4⟩
  · exact .inl h
  · exact .inr ⟨j, r, h2, hC j h3, h4⟩
theorem SupB.of (hC : ∀ j, (bf.getD i 0).testBit j = true → D j = true) {k : Nat} (h : SupB σ.blocks.length (out.take i) (bf.getD i 0).testBit k) : SupB σ.blocks.length out D k := by
  rcases h.take with h | ⟨j, r, _, h2, h3, h4, h5⟩
  · exact .inl h
  · exact .inr ⟨j, r, h2, hC j h3, h4, h5⟩
theorem SupE.off (F : Facts X A ops bf σ out) {i : Nat} {r : HR} (hi : out[i]? = some r) (hD : D i = false) {e : Nat} (h : SupE σ.ne out D e) : ¬ (r.ne ≤ e ∧ e < r.ne + r.nds.length) := by
  rintro ⟨h1, h2⟩
  rcases h with h | ⟨j, s, hj, hd, h3, h4⟩
  · have := F.ne_ge hi; omega
  · rcases Nat.lt_trichotomy i j with hij | hij | hij
    · have := F.ne_le hi hj hij; omega
    · subst hij; rw [hD] at hd; cases hd
    · have := F.ne_le hj hi hij; omega
theorem SupB.off {i : Nat} {r : HR} (hi : out[i]? = some r) (hn : isNew r = true) (hD : D i = false) {k : Nat} (h : SupB σ.blocks.length out D k) : k ≠ nbOf σ out i := by
  intro he
  rcases h with h | ⟨j, s, hj, hd, h3, h4⟩
  · unfold nbOf at he; omega
  · unfold nbOf at he
    rcases Nat.lt_trichotomy i j with hij | hij | hij
    · have := cntNew_lt hi hn hij; omega
    · subst hij; rw [hD] at hd; cases hd
    · have := cntNew_lt hj h3 hij; omega
theorem slot_sup (R : Reg X A ops bf σ env0 β0 out) (hC : Closed bf D) {t : Nat} {sl : Slot} (h : (minS D 0 out σ.slots)[t]? = some sl) :
    (∀ e ∈ svE sl.s, SupE σ.ne out D e) ∧ (∀ b ∈ svB sl.s, SupB σ.blocks.length out D b) ∧ (∀ e ∈ gE sl.g, SupE σ.ne out D e) ∧ ∀ b ∈ gB sl.g, SupB σ.blocks.length out D b := by
  have hlt : t < σ.slots.length := by
    have := (List.getElem?_eq_some_iff.1 h).1
    rwa [minS_len] at this
  by_cases hx : ∃ j r, out[j]? = some r ∧ D j = true ∧ r.dst = some t
  · obtain ⟨j, r, hj, hd, hdst⟩ := hx
    obtain ⟨o, ho, f⟩ := R.F.get hj
    rw [minS_hit out 0 σ.slots hj (by simpa using hd) hdst hlt (fun j' r' hj' hne hdst' => by
      obtain ⟨o', ho', f'⟩ := R.F.get hj'
      exact hne (R.dist j' j o' o t ho' ho (by rw [← f'.dst]; exact hdst') (by rw [← f.dst]; exact hdst)))] at h
    cases h
    have hcl := fun q hq => hC j q hd hq
    refine ⟨fun e he => ?_, fun b hb => ?_, fun e he => (f.gE e he).of hcl, fun b hb => (f.gB b hb).of hcl⟩
    · rcases f.sE e he with h | h
      · exact h.of hcl
      · exact .inr ⟨j, r, hj, hd, h⟩
    · rcases f.sB b hb with h | h
      · exact h.of hcl
      · exact .inr ⟨j, r, hj, hd, h⟩
  · rw [minS_miss out 0 σ.slots (fun j r hj hd hdst => hx ⟨j, r, hj, by simpa using hd, hdst⟩)] at h
    obtain ⟨w1, w2, w3, w4⟩ := wfE R.wf h
    exact ⟨fun e he => .inl (w1 e he), fun e he => .inl (w2 e he), fun e he => .inl (w3 e he), fun e he => .inl (w4 e he)⟩
theorem blk_sup (R : Reg X A ops bf σ env0 β0 out) (hC : Closed bf D) {k : Nat} {b : Blk} (h : (minB D 0 out σ.blocks)[k]? = some (some b)) :
    (∀ e ∈ contE b.cont, SupE σ.ne out D e) ∧ (∀ c ∈ contB b.cont, SupB σ.blocks.length out D c) ∧ SupB σ.blocks.length out D k := by
  rcases minB_mem out 0 _ h with h | ⟨j, r, hj, hd, hr⟩
  · obtain ⟨w1, w2⟩ := wfB R.wf h
    exact ⟨fun e he => .inl (w1 e he), fun e he => .inl (w2 e he), .inl (List.getElem?_eq_some_iff.1 h).1⟩
  · simp only [Nat.zero_add] at hd
    obtain ⟨o, ho, f⟩ := R.F.get hj
    have hcl := fun q hq => hC j q hd hq
    have hkind : r.eff = .new b ∨ ∃ k, r.eff = .set k b := by
      rcases hr with h | h
      · exact .inl h.1
      · exact .inr ⟨k, h⟩
    refine ⟨fun e he => ?_, fun c hc => (f.cB b hkind c hc).of hcl, ?_⟩
    · rcases f.cE b hkind e he with h | h
      · exact h.of hcl
      · exact .inr ⟨j, r, hj, hd, h⟩
    · rcases hr with ⟨h1, h2⟩ | h
      · exact .inr ⟨j, r, hj, hd, by simp [isNew, h1], h2⟩
      · exact (f.kB k b h).of hcl
/-- What holds when the operations of D are done. -/
structure Inv (X : Ctx) (A : Ann) (ops : Array Oper) (bf : List Nat) (σ : St) (env0 : Env) (β0 : Nat → Nat) (out : List HR) (D : Nat → Bool) (env : Env) (β : Nat → Nat) (a : Act) (w : World) : Prop where
  closed : Closed bf D
  baseE : ∀ e, e < σ.ne → env0 e = env e
  baseB : ∀ k, k < σ.blocks.length → β0 k = β k
  ok : ∀ j r, D j = true → out[j]? = some r → Okk X σ out env β j r
  mem : Mem X (minY D 0 out σ.sy) (minB D 0 out σ.blocks) σ.gl env β w
  sz0 : (env σ.sy.s).2.heap.size ≤ w.heap.size
  past0 : σ.sy.live = true → (∀ (j : Nat) (o : Oper) (r : HR), D j = true → ops.toList[j]? = some o → out[j]? = some r → hard r = true → isEff A o = true ∧ isMd A o = false) →
    ∀ b, b < (env σ.sy.s).2.heap.size → b ∉ σ.sy.ow.map β → w.heap[b]? = (env σ.sy.s).2.heap[b]?
  szs : ∀ j r, D j = true → out[j]? = some r → r.eff = .eff → (env r.ne).2.heap.size ≤ w.heap.size
  defers : ∀ d ∈ a.defers, NoOp X.P d
  size : a.tmps.size = σ.slots.length
  frm : FrmOk env β (minS D 0 out σ.slots) a
theorem split_at {i : Nat} {r : HR} (hi : out[i]? = some r) : out = out.take i ++ r :: out.drop (i + 1) ∧ (out.take i).length = i := by
  have h := hi
  rw [List.getElem?_eq_some_iff] at h
  obtain ⟨hl, hg⟩ := h
  refine ⟨?_, by simp; omega⟩
  rw [← hg, ← List.drop_eq_getElem_cons hl, List.take_append_drop]
theorem minS_add (R : Reg X A ops bf σ env0 β0 out) {i : Nat} {r : HR} (hi : out[i]? = some r) : minS (addD D i) 0 out σ.slots = match r.dst with | some t => (minS D 0 out σ.slots).set t r.slot | none => minS D 0 out σ.slots := by
  obtain ⟨o, ho, f⟩ := R.F.get hi
  have huniq : ∀ (j : Nat) (r0 : HR) (t : Nat), out[j]? = some r0 → r0.dst = some t → ∀ j' r', out[j']? = some r' → j' ≠ j → r'.dst ≠ some t := fun j r0 t hj hdst j' r' hj' hne hdst' => by
    obtain ⟨o1, ho1, f1⟩ := R.F.get hj
    obtain ⟨o2, ho2, f2⟩ := R.F.get hj'
    exact hne (R.dist j' j o2 o1 t ho2 ho1 (by rw [← f2.dst]; exact hdst') (by rw [← f1.dst]; exact hdst))
  have hother : ∀ t', r.dst ≠ some t' → (minS (addD D i) 0 out σ.slots)[t']? = (minS D 0 out σ.slots)[t']? := fun t' hne => by
    by_cases hlt : t' < σ.slots.length
    · by_cases hx : ∃ j r, out[j]? = some r ∧ D j = true ∧ r.dst = some t'
      · obtain ⟨j, r', hj, hd, hdst⟩ := hx
        rw [minS_hit (D := addD D i) out 0 σ.slots hj (by simpa using addD_of hd) hdst hlt (huniq j r' t' hj hdst), minS_hit (D := D) out 0 σ.slots hj (by simpa using hd) hdst hlt (huniq j r' t' hj hdst)]
      · rw [minS_miss (D := D) out 0 σ.slots (fun j r hj hd hdst => hx ⟨j, r, hj, by simpa using hd, hdst⟩), minS_miss (D := addD D i) out 0 σ.slots (fun j r' hj hd hdst => by
          simp only [Nat.zero_add] at hd
          rcases addD_or hd with h | h
          · exact hx ⟨j, r', hj, h, hdst⟩
          · subst h; rw [hi] at hj; cases hj; exact hne hdst)]
    · rw [List.getElem?_eq_none (by rw [minS_len]; omega), List.getElem?_eq_none (by rw [minS_len]; omega)]
  apply List.ext_getElem?
  intro t'
  cases hdst : r.dst with
  | none => exact hother t' (by rw [hdst]; simp)
  | some t =>
    simp only
    by_cases htt : t = t'
    · subst htt
      by_cases hlt : t < σ.slots.length
      · rw [List.getElem?_set_self (by rw [minS_len]; exact hlt)]
        exact minS_hit out 0 σ.slots hi (by simpa using addD_self D i) hdst hlt (huniq i r t hi hdst)
      · rw [List.getElem?_eq_none (by rw [minS_len]; omega), List.getElem?_eq_none (by rw [List.length_set, minS_len]; omega)]
    · rw [List.getElem?_set_ne htt]
      exact hother t' (by rw [hdst]; simpa using htt)
theorem minB_add_none {i : Nat} {r : HR} (hi : out[i]? = some r) (he : r.eff = .none ∨ r.eff = .eff) : minB (addD D i) 0 out σ.blocks = minB D 0 out σ.blocks := by
  obtain ⟨h1, h2⟩ := split_at hi
  rw [h1, minB_append, minB_append, h2]
  rcases he with he | he <;> simp only [minB, he]
  all_goals
    rw [minB_congr (D := addD D i) (D' := D) (out.take i) 0 _ (fun j _ hj => addD_ne (by omega)), minB_congr (D := addD D i) (D' := D) _ (0 + i + 1) _ (fun j hj _ => addD_ne (by omega))]
theorem minB_add_new (hD : D i = false) {r : HR} (hi : out[i]? = some r) {b : Blk} (he : r.eff = .new b) (hlater : ∀ j r' k' b', out[j]? = some r' → D j = true → r'.eff = .set k' b' → k' ≠ nbOf σ out i) :
    minB (addD D i) 0 out σ.blocks = (minB D 0 out σ.blocks).set (nbOf σ out i) (some b) ∧ (minB D 0 out σ.blocks)[nbOf σ out i]? = some none := by
  obtain ⟨h1, h2⟩ := split_at hi
  have hdr : ∀ (j : Nat) (r' : HR), (out.drop (i + 1))[j]? = some r' → out[i + 1 + j]? = some r' := fun j r' h => by rw [List.getElem?_drop] at h; exact h
  have hl : (minB D 0 (out.take i) σ.blocks).length = nbOf σ out i := minB_len _ _ _ _
  have hnone : (minB D 0 (out.take i) σ.blocks ++ [none])[nbOf σ out i]? = some none := by rw [← hl]; simp
  have hlat : ∀ (j : Nat) (r' : HR) (k' : Nat) (b' : Blk), (out.drop (i + 1))[j]? = some r' → D (0 + i + 1 + j) = true → r'.eff = .set k' b' → k' ≠ nbOf σ out i := fun j r' k' b' hj hd he' =>
    hlater (i + 1 + j) r' k' b' (hdr j r' hj) (by rw [show 0 + i + 1 + j = i + 1 + j from by omega] at hd; exact hd) he'
  have eD : minB D 0 out σ.blocks = minB D (0 + i + 1) (out.drop (i + 1)) (minB D 0 (out.take i) σ.blocks ++ [none]) := by
    conv => lhs; rw [h1]
    rw [minB_append, h2]
    simp only [minB, he, Nat.zero_add, hD, Bool.false_eq_true, if_false]
  have eA : minB (addD D i) 0 out σ.blocks = minB D (0 + i + 1) (out.drop (i + 1)) (minB D 0 (out.take i) σ.blocks ++ [some b]) := by
    conv => lhs; rw [h1]
    rw [minB_append, h2]
    simp only [minB, he, Nat.zero_add, addD_self, if_true]
    rw [minB_congr (D := addD D i) (D' := D) (out.take i) 0 _ (fun j _ hj => addD_ne (by omega)), minB_congr (D := addD D i) (D' := D) _ (i + 1) _ (fun j hj _ => addD_ne (by omega))]
  refine ⟨?_, ?_⟩
  · rw [eA, eD, ← minB_set _ _ _ (by simp [hl]) hlat]
    congr 1
    rw [← hl]
    simp
  · rw [eD]
    have hset := minB_set (D := D) (k := nbOf σ out i) (x := none) (out.drop (i + 1)) (0 + i + 1) (minB D 0 (out.take i) σ.blocks ++ [none]) (by simp [hl]) hlat
    have hself : (minB D 0 (out.take i) σ.blocks ++ [none]).set (nbOf σ out i) none = minB D 0 (out.take i) σ.blocks ++ [none] := by
      rw [← hl]; simp
    rw [hself] at hset
    rw [hset, List.getElem?_set_self]
    rw [minB_len]; simp [hl]; omega
theorem minB_add_set (hD : D i = false) {r : HR} (hi : out[i]? = some r) {k : Nat} {b : Blk} (he : r.eff = .set k b) (hk : k < nbOf σ out i) (hlater : ∀ j r' k' b', i < j → out[j]? = some r' → D j = true → r'.eff ≠ .set k' b') :
    minB (addD D i) 0 out σ.blocks = (minB D 0 out σ.blocks).set k (some b) := by
  obtain ⟨h1, h2⟩ := split_at hi
  have hdr : ∀ (j : Nat) (r' : HR), (out.drop (i + 1))[j]? = some r' → out[i + 1 + j]? = some r' := fun j r' h => by rw [List.getElem?_drop] at h; exact h
  have hl : (minB D 0 (out.take i) σ.blocks).length = nbOf σ out i := minB_len _ _ _ _
  have hlat : ∀ (j : Nat) (r' : HR) (k' : Nat) (b' : Blk), (out.drop (i + 1))[j]? = some r' → D (0 + i + 1 + j) = true → r'.eff = .set k' b' → k' ≠ k := fun j r' k' b' hj hd he' =>
    absurd he' (hlater (i + 1 + j) r' k' b' (by omega) (hdr j r' hj) (by rw [show 0 + i + 1 + j = i + 1 + j from by omega] at hd; exact hd))
  have eD : minB D 0 out σ.blocks = minB D (0 + i + 1) (out.drop (i + 1)) (minB D 0 (out.take i) σ.blocks) := by
    conv => lhs; rw [h1]
    rw [minB_append, h2]
    simp only [minB, he, Nat.zero_add, hD, Bool.false_eq_true, if_false]
  have eA : minB (addD D i) 0 out σ.blocks = minB D (0 + i + 1) (out.drop (i + 1)) ((minB D 0 (out.take i) σ.blocks).set k (some b)) := by
    conv => lhs; rw [h1]
    rw [minB_append, h2]
    simp only [minB, he, Nat.zero_add, addD_self, if_true]
    rw [minB_congr (D := addD D i) (D' := D) (out.take i) 0 _ (fun j _ hj => addD_ne (by omega)), minB_congr (D := addD D i) (D' := D) _ (i + 1) _ (fun j hj _ => addD_ne (by omega))]
  rw [eA, eD, ← minB_set _ _ _ (by rw [hl]; exact hk) hlat]
theorem y_sup (R : Reg X A ops bf σ env0 β0 out) (hC : Closed bf D) : SupE σ.ne out D (minY D 0 out σ.sy).s ∧ ∀ k ∈ (minY D 0 out σ.sy).ow, SupB σ.blocks.length out D k := by
  obtain ⟨_, _, _, w4, w5⟩ := wf_parts R.wf
  refine ⟨?_, fun k hk => ?_⟩
  · rcases minY_s (D := D) out 0 σ.sy with h | ⟨j, r, hj, hd, he, h⟩
    · rw [h]; exact .inl w4
    · rw [Nat.zero_add] at hd
      obtain ⟨o, ho, f⟩ := R.F.get hj
      have := (f.isEf he).2
      rw [h]
      exact .inr ⟨j, r, hj, hd, by omega, by omega⟩
  · rcases minY_ow out 0 σ.sy hk with h | ⟨j, r, b, hj, hd, he⟩
    · exact .inl (w5 k h)
    · rw [Nat.zero_add] at hd
      obtain ⟨o, ho, f⟩ := R.F.get hj
      exact (f.kB k b he).of (fun q hq => hC j q hd hq)
/-- The same, one operation later: what does not hang on the kind of its result. -/
theorem Inv.next (R : Reg X A ops bf σ env0 β0 out) {env : Env} {β : Nat → Nat} {a : Act} {w : World} (I : Inv X A ops bf σ env0 β0 out D env β a w) {i : Nat} {r : HR} (hi : out[i]? = some r) (hD : D i = false)
    (hbf : ∀ j, (bf.getD i 0).testBit j = true → D j = true) {vs : List Val} (hvs : Chain X β r.nds env r.ne vs) {β' : Nat → Nat} (hβ : ∀ k, β k ≠ β' k → isNew r = true ∧ k = nbOf σ out i) (hnb : isNew r = true → (env r.s).2.heap.size ≤ β' (nbOf σ out i)) :
    Closed bf (addD D i) ∧ (∀ e, e < σ.ne → env0 e = updl env r.ne vs e) ∧ (∀ k, k < σ.blocks.length → β0 k = β' k) ∧ (∀ j r', addD D i j = true → out[j]? = some r' → Okk X σ out (updl env r.ne vs) β' j r') ∧
    Mem X (minY D 0 out σ.sy) (minB D 0 out σ.blocks) σ.gl (updl env r.ne vs) β w ∧ (∀ k, SupB σ.blocks.length out D k → β k = β' k) ∧ FrmOk (updl env r.ne vs) β' (minS D 0 out σ.slots) a ∧
    (updl env r.ne vs σ.sy.s).2.heap.size ≤ w.heap.size ∧ (∀ j r', D j = true → out[j]? = some r' → r'.eff = .eff → (updl env r.ne vs r'.ne).2.heap.size ≤ w.heap.size) := by
  obtain ⟨o, ho, f⟩ := R.F.get hi
  have hlen := hvs.length
  have hout : ∀ e, ¬ (r.ne ≤ e ∧ e < r.ne + r.nds.length) → env e = updl env r.ne vs e := fun e he => by
    rcases Nat.lt_or_ge e r.ne with h | h
    · rw [updl_lt _ _ _ _ h]
    · rw [updl_ge _ _ _ _ (by omega)]
  have hsupE : ∀ e, SupE σ.ne out D e → env e = updl env r.ne vs e := fun e he => hout e (he.off R.F hi hD)
  have hsupB : ∀ k, SupB σ.blocks.length out D k → β k = β' k := fun k hk => Decidable.byContradiction fun hne => by
    obtain ⟨h1, h2⟩ := hβ k hne
    exact hk.off hi h1 hD h2
  refine ⟨?_, fun e he => (I.baseE e he).trans (hsupE e (.inl he)), fun k hk => (I.baseB k hk).trans (hsupB k (.inl hk)), ?_, ?_, hsupB, ?_, ?_, ?_⟩
  · intro p q hp hq
    rcases addD_or hp with h | h
    · exact addD_of (I.closed p q h hq)
    · subst h; exact addD_of (hbf q hq)
  · intro j r' hj hr'
    by_cases hji : j = i
    · subst hji
      rw [hi] at hr'
      cases hr'
      have h1 : OkAt X (updl env r.ne vs) β' r (nbOf σ out j) := ok_of_chain (f.nds) (fun e he hin => by have := R.F.supE_lt hi he; omega) f.sS hnb
        (Chain.congr (ne := r.ne) (j := 0) (fun b hb => hsupB b (hb.of hbf)) f.nds (fun _ _ => rfl) (fun _ _ _ => rfl) hvs)
      exact h1
    · have hd : D j = true := (addD_or hj).resolve_right hji
      obtain ⟨o', ho', f'⟩ := R.F.get hr'
      have hcl := fun q hq => I.closed j q hd hq
      refine OkAt.congr (fun b hb => hsupB b (hb.of hcl)) f'.nds (fun e he => hsupE e (he.of hcl)) (fun e g1 g2 => hsupE e (.inr ⟨j, r', hr', hd, g1, g2⟩)) f'.sS (fun hn => hsupB _ (.inr ⟨j, r', hr', hd, hn, rfl⟩)) (I.ok j r' hd hr')
  · obtain ⟨y1, y2⟩ := y_sup R I.closed
    refine I.mem.agree (fun k b hk => ?_) (fun _ _ => rfl) (hsupE _ y1) (fun _ _ => rfl)
    obtain ⟨s1, s2, s3⟩ := blk_sup R I.closed hk
    exact ⟨fun e he => hsupE e (s1 e he), fun _ _ => rfl, rfl⟩
  · refine I.frm.agree fun t sl hsl => ?_
    obtain ⟨s1, s2, s3, s4⟩ := slot_sup R I.closed hsl
    exact ⟨fun e he => hsupE e (s1 e he), fun b hb => hsupB b (s2 b hb), fun e he => hsupE e (s3 e he), fun b hb => hsupB b (s4 b hb)⟩
  · rw [← hsupE _ (.inl (wf_parts R.wf).2.2.2.1)]; exact I.sz0
  · intro j r' hd hr' he
    obtain ⟨o', ho', f'⟩ := R.F.get hr'
    rw [← hsupE _ (.inr ⟨j, r', hr', hd, Nat.le_refl _, by have := (f'.isEf he).2; omega⟩)]
    exact I.szs j r' hd hr' he
theorem Inv.past1 (R : Reg X A ops bf σ env0 β0 out) {env env' : Env} {β β' : Nat → Nat} {a : Act} {w w' : World} (I : Inv X A ops bf σ env0 β0 out D env β a w) {i : Nat} {o : Oper} {r : HR} (hi : out[i]? = some r) (ho : ops.toList[i]? = some o)
    (hE : env σ.sy.s = env' σ.sy.s) (hB : ∀ k, k < σ.blocks.length → β k = β' k) (hw : (hard r = true → isEff A o = true ∧ isMd A o = false) → ∀ b, b < w.heap.size → w'.heap[b]? = w.heap[b]?) :
    σ.sy.live = true → (∀ (j : Nat) (o : Oper) (r : HR), addD D i j = true → ops.toList[j]? = some o → out[j]? = some r → hard r = true → isEff A o = true ∧ isMd A o = false) →
    ∀ b, b < (env' σ.sy.s).2.heap.size → b ∉ σ.sy.ow.map β' → w'.heap[b]? = (env' σ.sy.s).2.heap[b]? := by
  intro hl hsoft b hb hn
  rw [← hE] at hb ⊢
  have hm : σ.sy.ow.map β = σ.sy.ow.map β' := List.map_congr_left fun k hk => hB k ((wf_parts R.wf).2.2.2.2 k hk)
  have h1 := I.past0 hl (fun j o' r' hd ho' hr' hh => hsoft j o' r' (addD_of hd) ho' hr' hh) b hb (by rw [hm]; exact hn)
  rw [hw (fun hh => hsoft i o r (addD_self D i) ho hi hh) b (Nat.lt_of_lt_of_le hb I.sz0), h1]
/-- What is known of untracked memory, one operation later: nothing else. -/
theorem minY_add_soft {i : Nat} {r : HR} (hi : out[i]? = some r) (he : hard r = false) : minY (addD D i) 0 out σ.sy = minY D 0 out σ.sy :=
  minY_same out 0 _ fun j r' hj hh => by
    rw [Nat.zero_add]
    refine addD_ne fun hji => ?_
    subst hji
    rw [hi] at hj
    cases hj
    rw [he] at hh; cases hh
theorem minY_add_hard {i : Nat} {r : HR} (hi : out[i]? = some r) (hD : D i = false) (hlater : ∀ j r', i < j → out[j]? = some r' → D j = true → hard r' = false) : minY (addD D i) 0 out σ.sy = yR true (minY D 0 out σ.sy) r := by
  obtain ⟨h1, h2⟩ := split_at hi
  have hdr : ∀ (j : Nat) (r' : HR), (out.drop (i + 1))[j]? = some r' → out[i + 1 + j]? = some r' := fun j r' h => by rw [List.getElem?_drop] at h; exact h
  have hlast : ∀ (D' : Nat → Bool), (∀ j, j ≠ i → D' j = D j) → ∀ y, minY D' (0 + i + 1) (out.drop (i + 1)) y = y := fun D' hD' y => minY_nil _ _ _ fun j r' hj hh => by
    rw [hD' _ (by omega)]
    cases hd : D (0 + i + 1 + j) with
    | false => rfl
    | true =>
      have := hlater (i + 1 + j) r' (by omega) (hdr j r' hj) (by rw [show 0 + i + 1 + j = i + 1 + j from by omega] at hd; exact hd)
      rw [this] at hh; cases hh
  have eD : minY D 0 out σ.sy = minY D 0 (out.take i) σ.sy := by
    conv => lhs; rw [h1]
    rw [minY_append, h2]
    simp only [minY]
    rw [hlast D (fun _ _ => rfl)]
    unfold yR
    rw [Nat.zero_add, hD]
    cases r.eff <;> rfl
  have eA : minY (addD D i) 0 out σ.sy = yR true (minY D 0 (out.take i) σ.sy) r := by
    conv => lhs; rw [h1]
    rw [minY_append, h2]
    simp only [minY]
    rw [hlast (addD D i) (fun j hj => addD_ne hj), Nat.zero_add, addD_self, minY_congr (D := addD D i) (D' := D) (out.take i) 0 _ (fun j _ hj => addD_ne (by simp at hj; omega))]
  rw [eA, eD]
/-- The frame with the slot filled. -/
theorem frm_add (R : Reg X A ops bf σ env0 β0 out) {env : Env} {β : Nat → Nat} {a : Act} (h : FrmOk env β (minS D 0 out σ.slots) a) (hsize : a.tmps.size = σ.slots.length) {i : Nat} {r : HR} (hi : out[i]? = some r) (v : Value)
    (hv : (conds env β r.slot.g → v = r.slot.s.den env β) ∧ (¬ conds env β r.slot.g → v = undef)) : FrmOk env β (minS (addD D i) 0 out σ.slots) (a.put r.dst v) := by
  have := FrmOk.put (σ := ⟨minS D 0 out σ.slots, [], [], 0, ⟨true, 0, []⟩⟩) h (by rw [hsize]; exact (minS_len _ _ _ _).symm) r.dst r.slot.s r.slot.g v hv
  rw [minS_add R hi]
  cases hd : r.dst with
  | none => rw [hd] at this; exact this
  | some t => rw [hd] at this; exact this
end
end Go.Vc
