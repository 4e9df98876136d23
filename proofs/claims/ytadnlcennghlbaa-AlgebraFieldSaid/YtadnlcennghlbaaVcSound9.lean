/-
  The engine is sound, part 9: code, loops, functions.
-/
import Derived.Test.YtadnlcennghlbaaVcBoth
namespace Go.Vc
open Go Go.RowKit
def toExit : Ex → Exit
  | .normal => .normal
  | .exit id => .exit id
  | .ret => .ret
/-- A loop under a relation that bears a datum; the datum's number goes down. -/
theorem wp_loop_data {P : Program} {c : Code} {Q : Exit → Act → World → Prop} {a : Act} {w : World} {ι : Type} (I : ι → Act → World → Prop) (μ : ι → Nat) (i0 : ι) (h0 : I i0 a w)
    (round : ∀ i a w, I i a w → c.wp P (Exit.then (fun a' w' => ∃ i', I i' a' w' ∧ μ i' < μ i) Q) a w) : (Code.loop c).wp P Q a w := by
  have least : ∀ (a : Act) (w : World), (∃ i, I i a w) → ∃ n, (∃ i, I i a w ∧ μ i = n) ∧ ∀ m, (∃ i, I i a w ∧ μ i = m) → n ≤ m := by
    intro a w ⟨i, hi⟩
    have key : ∀ n, (∃ i, I i a w ∧ μ i = n) → ∃ n, (∃ i, I i a w ∧ μ i = n) ∧ ∀ m, (∃ i, I i a w ∧ μ i = m) → n ≤ m := by
      intro n
      induction n using Nat.strongRecOn with
      | _ n ih =>
        intro hn
        by_cases hc : ∃ m, m < n ∧ ∃ i, I i a w ∧ μ i = m
        · obtain ⟨m, hm, hi⟩ := hc
          exact ih m hm hi
        · refine ⟨n, hn, fun m hm => ?_⟩
          rcases Nat.lt_or_ge m n with h | h
          · exact absurd ⟨m, h, hm⟩ hc
          · exact h
    exact key _ ⟨i, hi, rfl⟩
  classical
  let ν : Act → World → Nat := fun a w => if h : ∃ i, I i a w then Classical.choose (least a w h) else 0
  have hν : ∀ a w (h : ∃ i, I i a w), (∃ i, I i a w ∧ μ i = ν a w) ∧ ∀ m, (∃ i, I i a w ∧ μ i = m) → ν a w ≤ m := fun a w h => by
    have := Classical.choose_spec (least a w h)
    simp only [ν, dif_pos h]
    exact this
  refine wp_loop (fun a w => ∃ i, I i a w) ν ⟨i0, h0⟩ fun a w hI => ?_
  obtain ⟨⟨i, hi, hμ⟩, _⟩ := hν a w hI
  refine Code.wp_mono (fun e a' w' hq => ?_) (round i a w hi)
  cases e with
  | normal =>
    obtain ⟨i', hi', hlt⟩ := hq
    refine ⟨⟨i', hi'⟩, ?_⟩
    have := (hν a' w' ⟨i', hi'⟩).2 (μ i') ⟨i', hi', rfl⟩
    omega
  | _ => exact hq
/-- Rounds of a loop, m at most. -/
def roundsWp (P : Program) (c : Code) (Q : Exit → Act → World → Prop) : Nat → Act → World → Prop
  | 0, _, _ => False
  | m + 1, a, w => c.wp P (Exit.then (roundsWp P c Q m) Q) a w
theorem wp_loop_of_rounds {P : Program} {c : Code} {Q : Exit → Act → World → Prop} {a : Act} {w : World} {m : Nat} (h : roundsWp P c Q m a w) : (Code.loop c).wp P Q a w := by
  refine wp_loop_data (ι := Nat) (fun m a w => roundsWp P c Q m a w) id m h fun i a w hi => ?_
  cases i with
  | zero => exact hi.elim
  | succ i =>
    refine Code.wp_mono (fun e a' w' hq => ?_) hi
    cases e with
    | normal => exact ⟨i, hq, by simp⟩
    | _ => exact hq
section
variable {X : Ctx} {A : Ann}
theorem valSame_eq {u v : Value} (h : valSame u v = true) : u = v := by
  unfold valSame at h
  split at h <;> simp_all
  rename_i a b
  obtain ⟨a⟩ := a
  obtain ⟨b⟩ := b
  simpa using h
theorem atSame_eq {x y : At} (h : atSame x y = true) : x = y := by
  unfold atSame at h
  split at h <;> simp_all
  exact valSame_eq h
theorem atsSame_eq : ∀ {x y : List At}, atsSame x y = true → x = y
  | [], [], _ => rfl
  | a :: l, b :: m, h => by
    simp only [atsSame, Bool.and_eq_true] at h
    rw [atSame_eq h.1, atsSame_eq h.2]
  | [], _ :: _, h => by simp [atsSame] at h
  | _ :: _, [], h => by simp [atsSame] at h
theorem contSame_eq {x y : Cont} (h : contSame x y = true) : x = y := by
  unfold contSame at h
  split at h <;> simp_all
  exact atsSame_eq h
theorem svSame_eq {x y : SV} (h : svSame x y = true) : x = y := by
  unfold svSame at h
  split at h <;> simp_all
  · exact atSame_eq h
  · exact atsSame_eq h
/-- What the head's slots are, and what the values behind a round fit. -/
theorem allV_apply : ∀ {n : Nat} {f : List Value → Prop} {us : List Value}, us.length = n → allV n f → f us
  | 0, f, [], _, h => h
  | n + 1, f, u :: us, hl, h => allV_apply (n := n) (f := fun l => f (u :: l)) (by simpa using hl) (h u)
  | 0, f, _ :: _, hl, _ => by simp at hl
  | n + 1, f, [], hl, _ => by simp at hl
/-- Slots and variables of the head fit a frame. -/
def FitS (env : Env) (β : Nat → Nat) (a : Act) : List Slot → Nat → Prop
  | [], _ => True
  | sl :: r, t => (okSV sl.s = true → (conds env β sl.g → a.tmps[t]? = some (sl.s.den env β)) ∧ (¬ conds env β sl.g → a.tmps[t]? = some undef)) ∧ FitS env β a r (t + 1)
theorem fitS_of {env : Env} {β : Nat → Nat} {a : Act} : ∀ {l : List Slot} {t0 : Nat}, (∀ (t : Nat) (sl : Slot), l[t]? = some sl → okSV sl.s = true → (conds env β sl.g → a.tmps[t0 + t]? = some (sl.s.den env β)) ∧ (¬ conds env β sl.g → a.tmps[t0 + t]? = some undef)) → FitS env β a l t0
  | [], _, _ => trivial
  | sl :: r, t0, h => ⟨h 0 sl rfl, fitS_of fun t s hs => by have := h (t + 1) s (by simpa using hs); rwa [show t0 + 1 + t = t0 + (t + 1) from by omega]⟩
theorem fitS_to {env : Env} {β : Nat → Nat} {a : Act} : ∀ {l : List Slot} {t0 : Nat}, FitS env β a l t0 → ∀ (t : Nat) (sl : Slot), l[t]? = some sl → okSV sl.s = true → (conds env β sl.g → a.tmps[t0 + t]? = some (sl.s.den env β)) ∧ (¬ conds env β sl.g → a.tmps[t0 + t]? = some undef)
  | [], _, _, t, sl, hs => by simp at hs
  | s0 :: r, t0, h, t, sl, hs => by
    cases t with
    | zero => simp at hs; subst hs; exact h.1
    | succ t =>
      have := fitS_to h.2 t sl (by simpa using hs)
      rwa [show t0 + 1 + t = t0 + (t + 1) from by omega] at this
theorem headSlots_len (live ds : List Nat) : ∀ (l : List Slot) (ne t : Nat), (headSlots live ds ne l t).1.length = l.length ∧ ne + (headSlots live ds ne l t).2.1.length = (headSlots live ds ne l t).2.2
  | [], ne, t => by simp [headSlots]
  | s :: r, ne, t => by
    simp only [headSlots]
    split
    · split
      · have := headSlots_len live ds r (ne + 1) (t + 1)
        simp only [List.length_cons]; omega
      · have := headSlots_len live ds r ne (t + 1)
        simp only [List.length_cons]; omega
    · have := headSlots_len live ds r ne (t + 1)
      simp only [List.length_cons]; omega
theorem headBlocks_len (hv : List Nat) : ∀ (l : List (Option Blk)) (ne t : Nat), (headBlocks hv ne l t).1.length = l.length ∧ ne + (headBlocks hv ne l t).2.1.length = (headBlocks hv ne l t).2.2
  | [], ne, t => by simp [headBlocks]
  | s :: r, ne, t => by
    simp only [headBlocks]
    split
    · rename_i l n ty own _
      have := headBlocks_len hv r (ne + l.length) (t + 1)
      simp only [List.length_cons, List.length_append]; omega
    · have := headBlocks_len hv r (ne + 1) (t + 1)
      simp only [List.length_cons]; omega
    · have := headBlocks_len hv r ne (t + 1)
      simp only [List.length_cons]; omega
section
variable {env env' env'' : Env} {β β' : Nat → Nat} {a : Act}
theorem slots_back (live ds : List Nat) : ∀ (sl ss : List Slot) (ne t : Nat) (vs : List At), matchSlots live ds (headSlots live ds ne sl t).1 ss t = some vs → FitS env' β' a ss t →
    (∀ s ∈ sl, (∀ e ∈ svE s.s, env'' e = env' e) ∧ ∀ b ∈ svB s.s, β b = β' b) → (∀ k (h : k < vs.length), (env'' (ne + k)).1 = vs[k].den env' β') →
    FitS env'' β a (headSlots live ds ne sl t).1 t ∧ vs.length = (headSlots live ds ne sl t).2.1.length
  | [], ss, ne, t, vs, h, _, _, _ => by
    simp only [headSlots] at h ⊢
    cases ss with
    | nil => simp [matchSlots] at h; subst h; exact ⟨trivial, rfl⟩
    | cons => simp [matchSlots] at h
  | s :: r, ss, ne, t, vs, h, hf, hE, hv => by
    have hEr : ∀ s ∈ r, (∀ e ∈ svE s.s, env'' e = env' e) ∧ ∀ b ∈ svB s.s, β b = β' b := fun x hx => hE x (by simp [hx])
    simp only [headSlots] at h ⊢
    cases ss with
    | nil => split at h <;> (try split at h) <;> simp [matchSlots] at h
    | cons s' ss =>
    split at h
    · rename_i hl
      rw [if_pos hl]
      split at h
      · rename_i a0 hs
        simp only [matchSlots, hl, if_true] at h
        split at h
        · rename_i _ _ i1 a1 he1
          split at h
          · rename_i hok
            cases hm : matchSlots live ds (headSlots live ds (ne + 1) r (t + 1)).1 ss (t + 1) with
            | none => simp [hm] at h
            | some vs' =>
            simp [hm] at h
            subst h
            obtain ⟨h1, h2⟩ := slots_back live ds r ss (ne + 1) (t + 1) vs' hm hf.2 hEr (fun k hk => by
              have := hv (k + 1) (by simpa using hk)
              rw [show ne + 1 + k = ne + (k + 1) from by omega, this]; rfl)
            refine ⟨⟨fun _ => ⟨fun _ => ?_, fun hc => absurd (conds_nil _ _) hc⟩, h1⟩, by simp [h2]⟩
            have := (hf.1 hok).1 (conds_nil _ _)
            rw [this]
            have h0 := hv 0 (by simp)
            simp only [Nat.add_zero, List.getElem_cons_zero] at h0
            simp only [SV.den, At.den] at h0 ⊢
            rw [h0]
          · cases h
        · rename_i heq; simp at heq
        · cases h
      · rename_i hs
        simp only [matchSlots, hl, if_true] at h
        obtain ⟨h1, h2⟩ := slots_back live ds r ss ne (t + 1) vs h hf.2 hEr hv
        exact ⟨⟨fun hok => by simp [okSV, okAt] at hok, h1⟩, h2⟩
    · rename_i hl
      rw [if_neg hl]
      simp only [matchSlots, hl] at h
      simp only [Bool.false_eq_true, if_false] at h
      split at h
      · rename_i hd
        obtain ⟨h1, h2⟩ := slots_back live ds r ss ne (t + 1) vs h hf.2 hEr hv
        rw [if_pos hd]
        exact ⟨⟨fun hok => by simp [okSV, okAt] at hok, h1⟩, h2⟩
      · rename_i hd
        simp only [if_neg hd] at h ⊢
        by_cases hgE : ¬ s.g = []
        · have hfj : forget s = ⟨.x .junk, []⟩ := by
            unfold forget
            split
            · rename_i hg; exact absurd hg hgE
            · rfl
          rw [hfj] at h ⊢
          have hrec : matchSlots live ds (headSlots live ds ne r (t + 1)).1 ss (t + 1) = some vs := by
            split at h <;> exact h
          obtain ⟨h1, h2⟩ := slots_back live ds r ss ne (t + 1) vs hrec hf.2 hEr hv
          exact ⟨⟨fun hok => by simp [okSV, okAt] at hok, h1⟩, h2⟩
        have hgE : s.g = [] := Classical.not_not.1 hgE
        have hfs : forget s = s := by unfold forget; rw [hgE]
        rw [hfs] at h ⊢
        split at h
        · rename_i hc
          simp only [Bool.and_eq_true] at hc
          obtain ⟨⟨hc1, hc2⟩, hc3⟩ := hc
          obtain ⟨h1, h2⟩ := slots_back live ds r ss ne (t + 1) vs h hf.2 hEr hv
          refine ⟨⟨fun hok => ?_, h1⟩, h2⟩
          have hes := svSame_eq hc1
          have hg : s.g = [] := List.isEmpty_iff.1 hc2
          have hg' : s'.g = [] := List.isEmpty_iff.1 hc3
          have := (hf.1 (by rw [← hes]; exact hok)).1 (by rw [hg']; exact conds_nil _ _)
          rw [hg]
          refine ⟨fun _ => ?_, fun hc => absurd (conds_nil _ _) hc⟩
          rw [this, ← hes]
          congr 1
          exact (SV.den_congr (hE s (by simp)).1 (hE s (by simp)).2).symm
        · split at h
          · rename_i hj
            obtain ⟨h1, h2⟩ := slots_back live ds r ss ne (t + 1) vs h hf.2 hEr hv
            exact ⟨⟨fun hok => by rw [hj] at hok; simp [okSV, okAt] at hok, h1⟩, h2⟩
          · cases h
/-- A block of the head says of memory what the block behind the round says. -/
def RelB (env'' : Env) (β : Nat → Nat) (env' : Env) (β' : Nat → Nat) (h s : List (Option Blk)) : Prop :=
  ∀ (k : Nat) (hb : Blk), h[k]? = some (some hb) → ∃ sb, s[k]? = some (some sb) ∧ sb.n = hb.n ∧ sb.ty = hb.ty ∧ sb.own = hb.own ∧ hb.cont.den env'' β = sb.cont.den env' β' ∧ (sb.cont.ok env' → hb.cont.ok env'')
theorem relB_cons {h s : List (Option Blk)} {hb sb : Option Blk} (h1 : ∀ b, hb = some b → ∃ c, sb = some c ∧ c.n = b.n ∧ c.ty = b.ty ∧ c.own = b.own ∧ b.cont.den env'' β = c.cont.den env' β' ∧ (c.cont.ok env' → b.cont.ok env''))
    (h2 : RelB env'' β env' β' h s) : RelB env'' β env' β' (hb :: h) (sb :: s) := fun k b hk => by
  cases k with
  | zero =>
    simp at hk
    obtain ⟨c, e, r⟩ := h1 b hk
    exact ⟨c, by simp [e], r⟩
  | succ k => simpa using h2 k b (by simpa using hk)
theorem vars_den (env : Env) (β : Nat → Nat) : ∀ (n k : Nat) (vs : List Value), vs.length = n → (∀ i (h : i < vs.length), (env (k + i)).1 = vs[i]) → (varsFrom k n).map (At.den env β) = vs
  | 0, k, vs, hl, _ => by
    have : vs = [] := List.length_eq_zero_iff.1 hl
    subst this; rfl
  | n + 1, k, [], hl, _ => by simp at hl
  | n + 1, k, v :: vs, hl, h => by
    simp only [varsFrom, List.map_cons]
    have h0 := h 0 (by simp)
    rw [vars_den env β n (k + 1) vs (by simpa using hl) (fun i hi => by
      have := h (i + 1) (by simpa using hi)
      rw [show k + 1 + i = k + (i + 1) from by omega, this]; rfl)]
    congr 1
theorem blocks_back (hv : List Nat) : ∀ (bl ss : List (Option Blk)) (ne t : Nat) (ws : List At), matchBlocks hv (headBlocks hv ne bl t).1 ss t = some ws →
    (∀ b, some b ∈ bl → (∀ e ∈ contE b.cont, env'' e = env' e) ∧ ∀ c ∈ contB b.cont, β c = β' c) → (∀ k (h : k < ws.length), (env'' (ne + k)).1 = ws[k].den env' β') →
    RelB env'' β env' β' (headBlocks hv ne bl t).1 ss ∧ ws.length = (headBlocks hv ne bl t).2.1.length
  | [], ss, ne, t, ws, h, _, _ => by
    simp only [headBlocks] at h ⊢
    simp only [matchBlocks, Option.some.injEq] at h
    subst h
    exact ⟨fun k b hk => by simp at hk, rfl⟩
  | b :: r, ss, ne, t, ws, h, hE, hv' => by
    have hEr : ∀ b, some b ∈ r → (∀ e ∈ contE b.cont, env'' e = env' e) ∧ ∀ c ∈ contB b.cont, β c = β' c := fun x hx => hE x (by simp [hx])
    simp only [headBlocks] at h ⊢
    split at h
    · rename_i l n ty own hin
      cases ss with
      | nil => simp [matchBlocks] at h
      | cons s' ss =>
      cases s' with
      | none => simp [matchBlocks] at h
      | some sb =>
      simp only [matchBlocks] at h
      split at h
      · cases h
      · rename_i hc
        simp only [Bool.not_eq_true', Bool.not_eq_false] at hc
        simp only [Bool.and_eq_true, beq_iff_eq] at hc
        split at h
        · rename_i l' m hl' hm
          split at h
          · rename_i hlen
            simp only [beq_iff_eq] at hlen
            cases hrec : matchBlocks hv (headBlocks hv (ne + l.length) r (t + 1)).1 ss (t + 1) with
            | none => simp [hrec] at h
            | some ws' =>
            simp [hrec] at h
            subst h
            cases hl'
            rw [vars_len] at hlen
            obtain ⟨h1, h2⟩ := blocks_back hv r ss (ne + l.length) (t + 1) ws' hrec hEr (fun k hk => by
              have := hv' (m.length + k) (by simp; omega)
              rw [show ne + l.length + k = ne + (m.length + k) from by omega, this, List.getElem_append_right (by omega)]
              congr 2; omega)
            refine ⟨relB_cons (fun b hb => ?_) h1, by simp [h2, hlen]⟩
            simp only [Option.some.injEq] at hb
            subst hb
            refine ⟨sb, rfl, hc.1.1.symm, hc.1.2.symm, hc.2.symm, ?_, fun _ => trivial⟩
            rw [hm]
            simp only [Cont.den]
            rw [vars_den env'' β l.length ne (m.map (At.den env' β')) (by simp [hlen]) (fun i hi => by
              have hi' : i < m.length := by simpa using hi
              have := hv' i (by simp; omega)
              rw [this, List.getElem_append_left hi']; simp)]
          · cases h
        · rename_i hl' _; simp at hl'
        · cases h
    · rename_i i n ty own hin
      cases ss with
      | nil => simp [matchBlocks] at h
      | cons s' ss =>
      cases s' with
      | none => simp [matchBlocks] at h
      | some sb =>
      simp only [matchBlocks] at h
      split at h
      · cases h
      · rename_i hc
        simp only [Bool.not_eq_true', Bool.not_eq_false] at hc
        simp only [Bool.and_eq_true, beq_iff_eq] at hc
        split at h
        · rename_i hl' _; simp at hl'
        · rename_i i' j hl' hm
          cases hrec : matchBlocks hv (headBlocks hv (ne + 1) r (t + 1)).1 ss (t + 1) with
          | none => simp [hrec] at h
          | some ws' =>
          simp [hrec] at h
          subst h
          obtain ⟨h1, h2⟩ := blocks_back hv r ss (ne + 1) (t + 1) ws' hrec hEr (fun k hk => by
            have := hv' (k + 1) (by simpa using hk)
            rw [show ne + 1 + k = ne + (k + 1) from by omega, this]; rfl)
          have h0 := hv' 0 (by simp)
          simp only [Nat.add_zero, List.getElem_cons_zero, At.den] at h0
          refine ⟨relB_cons (fun b hb => ?_) h1, by simp [h2]⟩
          simp only [Option.some.injEq] at hb
          subst hb
          refine ⟨sb, rfl, hc.1.1.symm, hc.1.2.symm, hc.2.symm, ?_, fun hok => ?_⟩
          · rw [hm]; simp only [Cont.den, h0]
          · rw [hm] at hok; simp only [Cont.ok, h0] at hok ⊢; exact hok
        · cases h
    · rename_i b _ _ hin1 hin2
      cases b with
      | none =>
        cases ss with
        | nil => simp [matchBlocks] at h
        | cons s' ss =>
          simp only [matchBlocks] at h
          obtain ⟨h1, h2⟩ := blocks_back hv r ss ne (t + 1) ws h hEr hv'
          exact ⟨relB_cons (fun b hb => by cases hb) h1, h2⟩
      | some b =>
      cases ss with
      | nil => simp [matchBlocks] at h
      | cons s' ss =>
      cases s' with
      | none => simp [matchBlocks] at h
      | some sb =>
      have hin : hv.contains t = false := by
        cases hq : hv.contains t with
        | false => rfl
        | true =>
          obtain ⟨c, n, ty, own⟩ := b
          cases c with
          | en l => exact absurd rfl (hin1 l n ty own hq)
          | wh i => exact absurd rfl (hin2 i n ty own hq)
      simp only [matchBlocks] at h
      split at h
      · cases h
      · rename_i hc
        simp only [Bool.not_eq_true', Bool.not_eq_false] at hc
        simp only [Bool.and_eq_true, beq_iff_eq] at hc
        simp only [hin, Bool.false_eq_true, if_false] at h
        split at h
        · rename_i hcs
          obtain ⟨h1, h2⟩ := blocks_back hv r ss ne (t + 1) ws h hEr hv'
          have hce := contSame_eq hcs
          refine ⟨relB_cons (fun b' hb => ?_) h1, h2⟩
          simp only [Option.some.injEq] at hb
          subst hb
          obtain ⟨e1, e2⟩ := hE b (by simp)
          refine ⟨sb, rfl, hc.1.1.symm, hc.1.2.symm, hc.2.symm, ?_, fun hok => ?_⟩
          · rw [← hce]; exact Cont.den_congr e1 e2
          · rw [← hce] at hok; exact Cont.ok_congr (fun e he => (e1 e he).symm) hok
        · cases h
end
end
end Go.Vc
