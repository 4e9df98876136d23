/-
  The engine is sound, part 8a: what the head of a region that draws its order comes to, as lists.
-/
import Derived.Test.YtadnlcennghlbaaVcSound7
namespace Go.Vc
open Go Go.RowKit
theorem cntNew_append (a b : List HR) : cntNew (a ++ b) = cntNew a + cntNew b := by simp [cntNew]
theorem cntNe_append (a b : List HR) : cntNe (a ++ b) = cntNe a + cntNe b := by simp [cntNe]
theorem cntNe_one (r : HR) : cntNe [r] = r.nds.length := by simp [cntNe]
theorem cntNew_cons (r : HR) (b : List HR) : cntNew (r :: b) = (if isNew r then 1 else 0) + cntNew b := by
  simp only [cntNew, List.filter_cons]; split <;> simp <;> omega
theorem take_get {α : Type} {l : List α} {i : Nat} {x : α} (h : l[i]? = some x) : l.take (i + 1) = l.take i ++ [x] := by
  rw [List.take_add_one, h]; rfl
theorem cntNe_take_le (rs : List HR) {i j : Nat} (h : i ≤ j) : cntNe (rs.take i) ≤ cntNe (rs.take j) := by
  have : rs.take j = rs.take i ++ (rs.take j).drop i := by
    conv => lhs; rw [← List.take_append_drop i (rs.take j)]
    rw [List.take_take, Nat.min_eq_left h]
  rw [this, cntNe_append]; omega
theorem cntNew_take_le (rs : List HR) {i j : Nat} (h : i ≤ j) : cntNew (rs.take i) ≤ cntNew (rs.take j) := by
  have : rs.take j = rs.take i ++ (rs.take j).drop i := by
    conv => lhs; rw [← List.take_append_drop i (rs.take j)]
    rw [List.take_take, Nat.min_eq_left h]
  rw [this, cntNew_append]; omega
theorem cntNe_lt {rs : List HR} {i j : Nat} {r : HR} (h : rs[i]? = some r) (hij : i < j) : cntNe (rs.take i) + r.nds.length ≤ cntNe (rs.take j) := by
  have := cntNe_take_le rs (show i + 1 ≤ j from hij)
  rw [take_get h, cntNe_append, cntNe_one] at this
  exact this
theorem cntNew_lt {rs : List HR} {i j : Nat} {r : HR} (h : rs[i]? = some r) (hn : isNew r = true) (hij : i < j) : cntNew (rs.take i) < cntNew (rs.take j) := by
  have := cntNew_take_le rs (show i + 1 ≤ j from hij)
  rw [take_get h, cntNew_append, cntNew_cons, hn] at this
  simp at this; omega
/-! ### the state that some results leave -/
def minS (D : Nat → Bool) : Nat → List HR → List Slot → List Slot
  | _, [], s => s
  | i, r :: rs, s => minS D (i + 1) rs (if D i then (match r.dst with | some t => s.set t r.slot | none => s) else s)
def minB (D : Nat → Bool) : Nat → List HR → List (Option Blk) → List (Option Blk)
  | _, [], s => s
  | i, r :: rs, s => minB D (i + 1) rs (match r.eff with
      | .none | .eff => s
      | .new b => s ++ [if D i then some b else none]
      | .set k b => if D i then s.set k (some b) else s)
def yR (on : Bool) (y : Sy) (r : HR) : Sy :=
  match r.eff with
  | .eff => if on then ⟨y.live, r.ne + r.nds.length - 1, if r.slot.g.isEmpty then [] else y.ow⟩ else y
  | .set k _ => if on then ⟨y.live, y.s, k :: y.ow⟩ else y
  | _ => y
def minY (D : Nat → Bool) : Nat → List HR → Sy → Sy
  | _, [], y => y
  | i, r :: rs, y => minY D (i + 1) rs (yR (D i) y r)
theorem minSt_eq (D : Nat → Bool) : ∀ (rs : List HR) (i : Nat) (σ : St), minSt D i rs σ = ⟨minS D i rs σ.slots, minB D i rs σ.blocks, σ.gl, σ.ne, minY D i rs σ.sy⟩
  | [], i, σ => rfl
  | r :: rs, i, σ => by
    simp only [minSt, minS, minB, minY]
    rw [minSt_eq D rs]
    rfl
theorem minS_len (D : Nat → Bool) : ∀ (rs : List HR) (i : Nat) (s : List Slot), (minS D i rs s).length = s.length
  | [], i, s => rfl
  | r :: rs, i, s => by
    simp only [minS]
    rw [minS_len D rs]
    split
    · split <;> simp
    · rfl
theorem minB_len (D : Nat → Bool) : ∀ (rs : List HR) (i : Nat) (s : List (Option Blk)), (minB D i rs s).length = s.length + cntNew rs
  | [], i, s => by simp [minB, cntNew]
  | r :: rs, i, s => by
    simp only [minB]
    rw [minB_len D rs, cntNew_cons]
    cases he : r.eff with
    | none => simp [isNew, he]
    | eff => simp [isNew, he]
    | new b => simp [isNew, he]; omega
    | set k b => simp only [isNew, he]; split <;> simp
theorem minS_congr {D D' : Nat → Bool} : ∀ (rs : List HR) (i : Nat) (s : List Slot), (∀ j, i ≤ j → j < i + rs.length → D j = D' j) → minS D i rs s = minS D' i rs s
  | [], i, s, _ => rfl
  | r :: rs, i, s, h => by
    simp only [minS]
    rw [h i (by omega) (by simp), minS_congr rs (i + 1) _ (fun j h1 h2 => h j (by omega) (by simp; omega))]
theorem minB_congr {D D' : Nat → Bool} : ∀ (rs : List HR) (i : Nat) (s : List (Option Blk)), (∀ j, i ≤ j → j < i + rs.length → D j = D' j) → minB D i rs s = minB D' i rs s
  | [], i, s, _ => rfl
  | r :: rs, i, s, h => by
    simp only [minB]
    rw [h i (by omega) (by simp), minB_congr rs (i + 1) _ (fun j h1 h2 => h j (by omega) (by simp; omega))]
theorem minS_append (D : Nat → Bool) : ∀ (as bs : List HR) (i : Nat) (s : List Slot), minS D i (as ++ bs) s = minS D (i + as.length) bs (minS D i as s)
  | [], bs, i, s => by simp [minS]
  | a :: as, bs, i, s => by
    simp only [List.cons_append, minS, List.length_cons]
    rw [minS_append D as bs, show i + 1 + as.length = i + (as.length + 1) from by omega]
theorem minB_append (D : Nat → Bool) : ∀ (as bs : List HR) (i : Nat) (s : List (Option Blk)), minB D i (as ++ bs) s = minB D (i + as.length) bs (minB D i as s)
  | [], bs, i, s => by simp [minB]
  | a :: as, bs, i, s => by
    simp only [List.cons_append, minB, List.length_cons]
    rw [minB_append D as bs, show i + 1 + as.length = i + (as.length + 1) from by omega]
/-- A slot that none of the results writes. -/
theorem minS_miss {D : Nat → Bool} {t : Nat} : ∀ (rs : List HR) (i : Nat) (s : List Slot), (∀ j r, rs[j]? = some r → D (i + j) = true → r.dst ≠ some t) → (minS D i rs s)[t]? = s[t]?
  | [], i, s, _ => rfl
  | r :: rs, i, s, h => by
    simp only [minS]
    rw [minS_miss rs (i + 1) _ (fun j r' hj hd => h (j + 1) r' (by simpa using hj) (by rw [show i + (j + 1) = i + 1 + j from by omega]; exact hd))]
    split
    · rename_i hd
      have := h 0 r rfl (by simpa using hd)
      split
      · rename_i u hu
        rw [hu] at this
        exact List.getElem?_set_ne (by intro he; subst he; exact this rfl)
      · rfl
    · rfl
/-- A slot that one of the results writes, and no other. -/
theorem minS_hit {D : Nat → Bool} {t k : Nat} {r0 : HR} : ∀ (rs : List HR) (i : Nat) (s : List Slot), rs[k]? = some r0 → D (i + k) = true → r0.dst = some t → t < s.length →
    (∀ j r, rs[j]? = some r → j ≠ k → r.dst ≠ some t) → (minS D i rs s)[t]? = some r0.slot := by
  intro rs i s hk hD hdst hlt huniq
  have hsplit : rs = rs.take k ++ r0 :: rs.drop (k + 1) := by
    have hk' := hk
    rw [List.getElem?_eq_some_iff] at hk'
    obtain ⟨hl, hg⟩ := hk'
    rw [← hg, ← List.drop_eq_getElem_cons hl, List.take_append_drop]
  have hlk : (rs.take k).length = k := by
    have := (List.getElem?_eq_some_iff.1 hk).1
    simp; omega
  rw [hsplit, minS_append, hlk]
  simp only [minS]
  rw [if_pos hD, hdst]
  simp only
  rw [minS_miss]
  · rw [List.getElem?_set_self (by rw [minS_len]; exact hlt)]
  · intro j r hj _
    refine huniq (k + 1 + j) r ?_ (by omega)
    rw [List.getElem?_drop] at hj
    exact hj
theorem minB_mem {D : Nat → Bool} {k : Nat} {b : Blk} : ∀ (rs : List HR) (i : Nat) (s : List (Option Blk)), (minB D i rs s)[k]? = some (some b) →
    s[k]? = some (some b) ∨ ∃ j r, rs[j]? = some r ∧ D (i + j) = true ∧ ((r.eff = .new b ∧ k = s.length + cntNew (rs.take j)) ∨ r.eff = .set k b)
  | [], i, s, h => .inl h
  | r :: rs, i, s, h => by
    simp only [minB] at h
    rcases minB_mem rs (i + 1) _ h with h1 | ⟨j, r', hj, hD, hr⟩
    · cases he : r.eff with
      | none => rw [he] at h1; exact .inl h1
      | eff => rw [he] at h1; exact .inl h1
      | new b' =>
        rw [he] at h1
        simp only at h1
        rw [List.getElem?_append] at h1
        split at h1
        · exact .inl h1
        · right
          have hz : k - s.length = 0 := by
            rcases Nat.eq_zero_or_pos (k - s.length) with h' | h'
            · exact h'
            · rw [List.getElem?_eq_none (by simp; omega)] at h1; cases h1
          rw [hz] at h1
          simp at h1
          refine ⟨0, r, rfl, by simpa using h1.1, .inl ⟨by rw [he, h1.2], by simp [cntNew]; omega⟩⟩
      | set k' b' =>
        rw [he] at h1
        simp only at h1
        split at h1
        · rename_i hd
          by_cases hkk : k' = k
          · subst hkk
            have hlt : k' < s.length := by
              have := (List.getElem?_eq_some_iff.1 h1).1
              simpa using this
            rw [List.getElem?_set_self hlt] at h1
            simp at h1
            exact .inr ⟨0, r, rfl, by simpa using hd, .inr (by rw [he, h1])⟩
          · rw [List.getElem?_set_ne hkk] at h1; exact .inl h1
        · exact .inl h1
    · refine .inr ⟨j + 1, r', by simpa using hj, by rw [show i + (j + 1) = i + 1 + j from by omega]; exact hD, ?_⟩
      rcases hr with ⟨h1, h2⟩ | h1
      · refine .inl ⟨h1, ?_⟩
        rw [h2, List.take_succ_cons, cntNew_cons]
        cases he : r.eff with
        | none => simp [isNew, he]
        | eff => simp [isNew, he]
        | new b' => simp [isNew, he]; omega
        | set k' b' => simp only [isNew, he]; split <;> simp
      · exact .inr h1
/-- A block that the one set of results does not know, and the other fills. -/
theorem minB_set {D : Nat → Bool} {k : Nat} {x : Option Blk} : ∀ (rs : List HR) (i : Nat) (s : List (Option Blk)), k < s.length →
    (∀ j r k' b, rs[j]? = some r → D (i + j) = true → r.eff = .set k' b → k' ≠ k) → minB D i rs (s.set k x) = (minB D i rs s).set k x
  | [], i, s, _, _ => rfl
  | r :: rs, i, s, hk, h => by
    have hrest : ∀ (j : Nat) (r' : HR) (k' : Nat) (b : Blk), rs[j]? = some r' → D (i + 1 + j) = true → r'.eff = .set k' b → k' ≠ k := fun j r' k' b hj hd he =>
      h (j + 1) r' k' b (by simpa using hj) (by rw [show i + (j + 1) = i + 1 + j from by omega]; exact hd) he
    simp only [minB]
    cases he : r.eff with
    | none => exact minB_set rs (i + 1) s hk hrest
    | eff => exact minB_set rs (i + 1) s hk hrest
    | new b =>
      simp only
      rw [← minB_set rs (i + 1) _ (by simp; omega) hrest, List.set_append_left _ _ hk]
    | set k' b =>
      simp only
      split
      · rename_i hd
        have hne := h 0 r k' b rfl (by simpa using hd) he
        rw [← minB_set rs (i + 1) _ (by simpa using hk) hrest, List.set_comm _ _ (Ne.symm hne)]
      · exact minB_set rs (i + 1) s hk hrest
/-- Fewer results: fewer blocks known, the others alike. -/
theorem minB_sub {D D' : Nat → Bool} : ∀ (rs : List HR) (i : Nat) (s s' : List (Option Blk)), s.length = s'.length → (∀ (k : Nat) (b : Blk), s[k]? = some (some b) → s'[k]? = some (some b)) →
    (∀ j r, rs[j]? = some r → D (i + j) = true → D' (i + j) = true) → (∀ j r k b, rs[j]? = some r → r.eff = .set k b → D' (i + j) = true → D (i + j) = true) →
    ∀ (k : Nat) (b : Blk), (minB D i rs s)[k]? = some (some b) → (minB D' i rs s')[k]? = some (some b)
  | [], i, s, s', _, h, _, _ => h
  | r :: rs, i, s, s', hl, h, h1, h2 => by
    have h1' : ∀ (j : Nat) (r' : HR), rs[j]? = some r' → D (i + 1 + j) = true → D' (i + 1 + j) = true := fun j r' hj hd => by
      have := h1 (j + 1) r' (by simpa using hj)
      rw [show i + (j + 1) = i + 1 + j from by omega] at this
      exact this hd
    have h2' : ∀ (j : Nat) (r' : HR) (k : Nat) (b : Blk), rs[j]? = some r' → r'.eff = .set k b → D' (i + 1 + j) = true → D (i + 1 + j) = true := fun j r' k b hj he hd => by
      have := h2 (j + 1) r' k b (by simpa using hj) he
      rw [show i + (j + 1) = i + 1 + j from by omega] at this
      exact this hd
    have h10 := h1 0 r rfl
    have h20 := fun k b => h2 0 r k b rfl
    simp only [Nat.add_zero] at h10 h20
    simp only [minB]
    refine minB_sub rs (i + 1) _ _ ?_ ?_ h1' h2'
    · cases he : r.eff with
      | none => exact hl
      | eff => exact hl
      | new b => simp [hl]
      | set k b => simp only; split <;> split <;> simp [hl]
    · intro k b hk
      cases he : r.eff with
      | none => rw [he] at hk; exact h k b hk
      | eff => rw [he] at hk; exact h k b hk
      | new b' =>
        rw [he] at hk
        simp only at hk ⊢
        rw [List.getElem?_append] at hk ⊢
        split at hk
        · rename_i hlt
          rw [if_pos (by omega)]; exact h k b hk
        · rename_i hlt
          rw [if_neg (by omega), ← hl]
          by_cases hd : D i = true
          · rw [h10 hd]; rw [hd] at hk; exact hk
          · simp only [hd, Bool.false_eq_true, if_false] at hk
            exfalso
            rcases Nat.eq_zero_or_pos (k - s.length) with h' | h'
            · rw [h'] at hk; simp at hk
            · rw [List.getElem?_eq_none (by simp; omega)] at hk; cases hk
      | set k' b' =>
        have h20' := h20 k' b' he
        rw [he] at hk
        simp only at hk ⊢
        by_cases hd : D i = true
        · rw [if_pos (h10 hd)]
          rw [if_pos hd] at hk
          by_cases hkk : k' = k
          · subst hkk
            have hlt : k' < s.length := by
              have := (List.getElem?_eq_some_iff.1 hk).1
              simpa using this
            rw [List.getElem?_set_self hlt] at hk
            rw [List.getElem?_set_self (by omega)]
            exact hk
          · rw [List.getElem?_set_ne hkk] at hk ⊢
            exact h k b hk
        · rw [if_neg hd] at hk
          have : ¬ D' i = true := fun hd' => hd (h20' hd')
          rw [if_neg this]
          exact h k b hk
/-! ### what the nodes name -/
def NdsIn (E B : Nat → Prop) (ne : Nat) : List Nd → Nat → Prop
  | [], _ => True
  | n :: ns, j => (∀ e ∈ ndE n, E e ∨ (ne ≤ e ∧ e < ne + j)) ∧ (∀ b ∈ ndB n, B b) ∧ NdsIn E B ne ns (j + 1)
section
variable {X : Ctx} {E B : Nat → Prop} {ne : Nat} {β β' : Nat → Nat}
theorem upd_agree {env env' : Env} {ne j : Nat} {v : Val} (hE : ∀ e, E e → env e = env' e) (hO : ∀ e, ne ≤ e → e < ne + j → env e = env' e) :
    (∀ e, E e → upd env (ne + j) v e = upd env' (ne + j) v e) ∧ ∀ e, ne ≤ e → e < ne + (j + 1) → upd env (ne + j) v e = upd env' (ne + j) v e := by
  refine ⟨fun e he => ?_, fun e h1 h2 => ?_⟩
  · by_cases h : e = ne + j
    · subst h; rw [upd_same, upd_same]
    · rw [upd_ne _ _ h, upd_ne _ _ h]; exact hE e he
  · by_cases h : e = ne + j
    · subst h; rw [upd_same, upd_same]
    · rw [upd_ne _ _ h, upd_ne _ _ h]; exact hO e h1 (by omega)
theorem Chain.congr (hB : ∀ b, B b → β b = β' b) : ∀ {ns : List Nd} {j : Nat} {env env' : Env} {vs : List Val}, NdsIn E B ne ns j → (∀ e, E e → env e = env' e) → (∀ e, ne ≤ e → e < ne + j → env e = env' e) →
    Chain X β ns env (ne + j) vs → Chain X β' ns env' (ne + j) vs
  | [], _, _, _, _, _, _, _, h => h
  | _ :: _, _, _, _, [], _, _, _, h => h.elim
  | n :: ns, j, env, env', v :: vs, hn, hE, hO, h => by
    refine ⟨(Nd.den_congr v (fun e he => (hn.1 e he).elim (hE e) fun h => hO e h.1 h.2) (fun b hb => hB b (hn.2.1 b hb))).1 h.1, ?_⟩
    have hu := upd_agree (v := v) hE hO
    exact Chain.congr hB (j := j + 1) hn.2.2 hu.1 hu.2 h.2
theorem PreChain.congr (hB : ∀ b, B b → β b = β' b) : ∀ {ns : List Nd} {j : Nat} {env env' : Env}, NdsIn E B ne ns j → (∀ e, E e → env e = env' e) → (∀ e, ne ≤ e → e < ne + j → env e = env' e) →
    PreChain X β ns env (ne + j) → PreChain X β' ns env' (ne + j)
  | [], _, _, _, _, _, _, _ => trivial
  | n :: ns, j, env, env', hn, hE, hO, h => by
    have hEn : ∀ e ∈ ndE n, env e = env' e := fun e he => (hn.1 e he).elim (hE e) fun h => hO e h.1 h.2
    have hBn : ∀ b ∈ ndB n, β b = β' b := fun b hb => hB b (hn.2.1 b hb)
    refine ⟨(Nd.pre_congr hEn hBn).1 h.1, fun v hv => ?_⟩
    have hu := upd_agree (v := v) hE hO
    exact PreChain.congr hB (j := j + 1) hn.2.2 hu.1 hu.2 (h.2 v ((Nd.den_congr v hEn hBn).2 hv))
/-- The nodes' values are those that env tells. -/
def OkAt (X : Ctx) (env : Env) (β : Nat → Nat) (r : HR) (k : Nat) : Prop := (∃ vs, Chain X β r.nds env r.ne vs ∧ ∀ e, updl env r.ne vs e = env e) ∧ (isNew r = true → (env r.s).2.heap.size ≤ β k)
theorem OkAt.congr {env env' : Env} {r : HR} (hB : ∀ b, B b → β b = β' b) (hn : NdsIn E B r.ne r.nds 0) (hE : ∀ e, E e → env e = env' e) (hO : ∀ e, r.ne ≤ e → e < r.ne + r.nds.length → env e = env' e)
    {k : Nat} (hs : E r.s) (hk : isNew r = true → β k = β' k) (h : OkAt X env β r k) : OkAt X env' β' r k := by
  obtain ⟨⟨vs, hc, hv⟩, hnb⟩ := h
  have hc' : Chain X β' r.nds env' r.ne vs := Chain.congr (ne := r.ne) (j := 0) hB hn hE (fun e h1 h2 => by omega) hc
  refine ⟨⟨vs, hc', fun e => ?_⟩, fun hn => by rw [← hE _ hs, ← hk hn]; exact hnb hn⟩
  have hl := hc.length
  by_cases h1 : e < r.ne
  · exact updl_lt _ _ _ _ h1
  · by_cases h2 : e < r.ne + r.nds.length
    · have hk : e - r.ne < vs.length := by omega
      have e1 := updl_get vs env r.ne (e - r.ne) hk
      have e2 := updl_get vs env' r.ne (e - r.ne) hk
      rw [show r.ne + (e - r.ne) = e from by omega] at e1 e2
      rw [e2, ← e1, hv e, hO e (by omega) h2]
    · have key : ∀ (vs : List Val) (f : Env) (i j : Nat), i + vs.length ≤ j → updl f i vs j = f j := by
        intro vs
        induction vs with
        | nil => intro f i j _; rfl
        | cons v vs ih => intro f i j h; simp only [updl]; simp only [List.length_cons] at h; rw [ih _ _ _ (by omega), upd_ne _ _ (by omega)]
      exact key vs env' r.ne e (by omega)
end
theorem updl_ge {α : Type} (vs : List α) : ∀ (f : Nat → α) (i j : Nat), i + vs.length ≤ j → updl f i vs j = f j := by
  induction vs with
  | nil => intro f i j _; rfl
  | cons v vs ih => intro f i j h; simp only [updl]; simp only [List.length_cons] at h; rw [ih _ _ _ (by omega), upd_ne _ _ (by omega)]
theorem updl_twice {α : Type} (vs : List α) (f : Nat → α) (i e : Nat) : updl (updl f i vs) i vs e = updl f i vs e := by
  by_cases h1 : e < i
  · rw [updl_lt _ _ _ _ h1]
  · by_cases h2 : e < i + vs.length
    · have e1 := updl_get vs (updl f i vs) i (e - i) (by omega)
      have e2 := updl_get vs f i (e - i) (by omega)
      rw [show i + (e - i) = e from by omega] at e1 e2
      rw [e1, e2]
    · rw [updl_ge _ _ _ _ (by omega)]
theorem ok_of_chain {X : Ctx} {E B : Nat → Prop} {β : Nat → Nat} {env : Env} {r : HR} {vs : List Val} (hn : NdsIn E B r.ne r.nds 0) (hE : ∀ e, E e → ¬ (r.ne ≤ e ∧ e < r.ne + r.nds.length))
    {k : Nat} (hs : E r.s) (hk : isNew r = true → (env r.s).2.heap.size ≤ β k) (h : Chain X β r.nds env r.ne vs) : OkAt X (updl env r.ne vs) β r k := by
  have hl := h.length
  have hos : updl env r.ne vs r.s = env r.s := by
    have := hE _ hs
    rcases Nat.lt_or_ge r.s r.ne with h1 | h1
    · rw [updl_lt _ _ _ _ h1]
    · rw [updl_ge _ _ _ _ (by omega)]
  refine ⟨⟨vs, ?_, fun e => updl_twice vs env r.ne e⟩, fun hn => by rw [hos]; exact hk hn⟩
  refine Chain.congr (ne := r.ne) (j := 0) (E := E) (B := B) (fun _ _ => rfl) hn (fun e he => ?_) (fun e h1 h2 => by omega) h
  have := hE e he
  rcases Nat.lt_or_ge e r.ne with h1 | h1
  · rw [updl_lt _ _ _ _ h1]
  · rw [updl_ge _ _ _ _ (by omega)]
/-! what is known of untracked memory -/
theorem minY_congr {D D' : Nat → Bool} : ∀ (rs : List HR) (i : Nat) (y : Sy), (∀ j, i ≤ j → j < i + rs.length → D j = D' j) → minY D i rs y = minY D' i rs y
  | [], i, s, _ => rfl
  | r :: rs, i, s, h => by
    simp only [minY]
    rw [h i (by omega) (by simp), minY_congr rs (i + 1) _ (fun j h1 h2 => h j (by omega) (by simp; omega))]
theorem minY_append (D : Nat → Bool) : ∀ (as bs : List HR) (i : Nat) (y : Sy), minY D i (as ++ bs) y = minY D (i + as.length) bs (minY D i as y)
  | [], bs, i, s => by simp [minY]
  | a :: as, bs, i, s => by
    simp only [List.cons_append, minY, List.length_cons]
    rw [minY_append D as bs, show i + 1 + as.length = i + (as.length + 1) from by omega]
/-- Does it change what is known of untracked memory? -/
def hard (r : HR) : Bool := match r.eff with | .eff | .set .. => true | _ => false
theorem minY_same {D D' : Nat → Bool} : ∀ (rs : List HR) (i : Nat) (y : Sy), (∀ j r, rs[j]? = some r → hard r = true → D (i + j) = D' (i + j)) → minY D i rs y = minY D' i rs y
  | [], i, s, _ => rfl
  | r :: rs, i, s, h => by
    simp only [minY]
    have h0 := h 0 r rfl
    rw [Nat.add_zero] at h0
    have : yR (D i) s r = yR (D' i) s r := by
      unfold yR
      cases he : r.eff <;> simp only <;> rw [h0 (by simp [hard, he])]
    rw [this, minY_same (D := D) (D' := D') rs (i + 1) _ (fun j r' hj hh => by
      have := h (j + 1) r' (by simpa using hj) hh
      rw [show i + (j + 1) = i + 1 + j from by omega] at this
      exact this)]
theorem minY_nil {D : Nat → Bool} : ∀ (rs : List HR) (i : Nat) (y : Sy), (∀ j r, rs[j]? = some r → hard r = true → D (i + j) = false) → minY D i rs y = y
  | [], i, s, _ => rfl
  | r :: rs, i, s, h => by
    simp only [minY]
    have h0 := h 0 r rfl
    rw [Nat.add_zero] at h0
    have : yR (D i) s r = s := by
      unfold yR
      cases he : r.eff <;> simp only <;> rw [h0 (by simp [hard, he])] <;> rfl
    rw [this]
    exact minY_nil rs (i + 1) _ (fun j r' hj hh => by
      have := h (j + 1) r' (by simpa using hj) hh
      rw [show i + (j + 1) = i + 1 + j from by omega] at this
      exact this)
theorem minY_live {D : Nat → Bool} : ∀ (rs : List HR) (i : Nat) (y : Sy), (minY D i rs y).live = y.live
  | [], i, s => rfl
  | r :: rs, i, s => by
    simp only [minY]
    rw [minY_live rs]
    unfold yR
    cases r.eff <;> simp only <;> split <;> rfl
theorem minY_s {D : Nat → Bool} : ∀ (rs : List HR) (i : Nat) (y : Sy), (minY D i rs y).s = y.s ∨ ∃ j r, rs[j]? = some r ∧ D (i + j) = true ∧ r.eff = .eff ∧ (minY D i rs y).s = r.ne + r.nds.length - 1
  | [], i, s => .inl rfl
  | r :: rs, i, s => by
    simp only [minY]
    rcases minY_s (D := D) rs (i + 1) (yR (D i) s r) with h | ⟨j, r', h1, h2, h3⟩
    · by_cases hc : r.eff = .eff ∧ D i = true
      · right
        refine ⟨0, r, rfl, by simpa using hc.2, hc.1, ?_⟩
        rw [h]
        unfold yR
        rw [hc.1, hc.2]
        simp
      · left
        rw [h]
        unfold yR
        cases he : r.eff with
        | eff => simp only; rw [if_neg (fun hd => hc ⟨he, hd⟩)]
        | set k b => simp only; split <;> rfl
        | none => rfl
        | new b => rfl
    · exact .inr ⟨j + 1, r', by simpa using h1, by rw [show i + (j + 1) = i + 1 + j from by omega]; exact h2, h3⟩
theorem minY_ow {D : Nat → Bool} {k : Nat} : ∀ (rs : List HR) (i : Nat) (y : Sy), k ∈ (minY D i rs y).ow → k ∈ y.ow ∨ ∃ j r b, rs[j]? = some r ∧ D (i + j) = true ∧ r.eff = .set k b
  | [], i, s, h => .inl h
  | r :: rs, i, s, h => by
    simp only [minY] at h
    rcases minY_ow rs (i + 1) _ h with h | ⟨j, r', b, h1, h2, h3⟩
    · unfold yR at h
      cases he : r.eff with
      | eff =>
        rw [he] at h
        simp only at h
        split at h
        · split at h
          · cases h
          · exact .inl h
        · exact .inl h
      | set k' b =>
        rw [he] at h
        simp only at h
        split at h
        · rename_i hd
          rcases List.mem_cons.1 h with h | h
          · subst h; exact .inr ⟨0, r, b, rfl, by simpa using hd, he⟩
          · exact .inl h
        · exact .inl h
      | none => rw [he] at h; exact .inl h
      | new b => rw [he] at h; exact .inl h
    · exact .inr ⟨j + 1, r', b, by simpa using h1, by rw [show i + (j + 1) = i + 1 + j from by omega]; exact h2, h3⟩
end Go.Vc
