/-
  The engine is sound, part 10: code and functions.
-/
import Derived.Test.YtadnlcennghlbaaVcSound9
namespace Go.Vc
open Go Go.RowKit
section
variable {X : Ctx} {A : Ann}
/-- The environment at the head of a loop: the variables have these values, the world is this. -/
def loopEnv (X : Ctx) (env : Env) (ne : Nat) (us : List Value) (w : World) : Env := upd (updl env ne (vals X us)) (ne + us.length) (undef, w)
theorem loopEnv_lt {env : Env} {ne : Nat} {us : List Value} {w : World} {e : Nat} (h : e < ne) : loopEnv X env ne us w e = env e := by
  unfold loopEnv; rw [upd_ne _ _ (by omega), updl_lt _ _ _ _ h]
theorem loopEnv_get {env : Env} {ne : Nat} {us : List Value} {w : World} {k : Nat} (h : k < us.length) : (loopEnv X env ne us w (ne + k)).1 = us[k] := by
  unfold loopEnv
  rw [upd_ne _ _ (by omega), updl_get _ _ _ k (by simpa [vals] using h)]
  simp [vals]
theorem loopEnv_w {env : Env} {ne : Nat} {us : List Value} {w : World} : loopEnv X env ne us w (ne + us.length) = (undef, w) := upd_same _ _ _
/-- Memory and frame behind a round fit the loop's head. -/
theorem back_sound {σ σ' : St} {env env' : Env} {β β' : Nat → Nat} {a : Act} {w : World} {live ds hv : List Nat} {us : List At} (hwf : wf σ = true)
    (h0 : ∀ (g k : Nat), (g, k) ∈ σ.gl → β k = g)
    (hs : Sat X σ' env' β' a w) (he : ∀ e, e < σ.ne → env' e = env e) (hb : ∀ b, b < σ.blocks.length → β' b = β b)
    (h : backTo live ds hv (head live ds hv σ).1 σ' = some us) :
    Sat X (head live ds hv σ).1 (loopEnv X env σ.ne (us.map (·.den env' β')) w) β a w ∧ us.length = (head live ds hv σ).2.length := by
  simp only [backTo, Option.bind_eq_bind] at h
  cases h1 : matchSlots live ds (head live ds hv σ).1.slots σ'.slots 0 with
  | none => simp [h1] at h
  | some vs =>
  cases h2 : matchBlocks hv (head live ds hv σ).1.blocks σ'.blocks 0 with
  | none => simp [h1, h2] at h
  | some ws =>
  simp [h1, h2] at h
  subst h
  obtain ⟨p1, p2, p3, p4, p5⟩ := wf_parts hwf
  have hlen1 := (headSlots_len live ds σ.slots σ.ne 0).2
  have hlen2 := (headBlocks_len hv σ.blocks (headSlots live ds σ.ne σ.slots 0).2.2 0).2
  generalize henv : loopEnv X env σ.ne ((vs ++ ws).map (·.den env' β')) w = env''
  have hvl : ∀ k (h : k < (vs ++ ws).length), (env'' (σ.ne + k)).1 = (vs ++ ws)[k].den env' β' := fun k hk => by
    rw [← henv, loopEnv_get (by simpa using hk), List.getElem_map]
  have hup : ∀ e, e < σ.ne → env'' e = env' e := fun e h' => by rw [← henv, loopEnv_lt h', he e h']
  simp only [head] at h1 h2
  obtain ⟨s1, s2⟩ := slots_back (env'' := env'') (env' := env') (β := β) (β' := β') live ds σ.slots σ'.slots σ.ne 0 vs h1 (fitS_of fun t sl hsl hok => by have := hs.slot t sl hsl hok; rwa [Nat.zero_add])
    (fun s hs' => by
      have := p1 s hs'
      simp only [okSlot, okE, Bool.and_eq_true, List.all_eq_true, decide_eq_true_eq] at this
      exact ⟨fun e h' => hup e (this.1.1 e h'), fun b h' => (hb b (this.1.2 b h')).symm⟩)
    (fun k hk => by rw [hvl k (by simp; omega), List.getElem_append_left hk])
  obtain ⟨b1, b2⟩ := blocks_back (env'' := env'') (env' := env') (β := β) (β' := β') hv σ.blocks σ'.blocks (headSlots live ds σ.ne σ.slots 0).2.2 0 ws h2
    (fun b hb' => by
      have := p2 _ hb'
      simp only [okB, okC, Bool.and_eq_true, List.all_eq_true, decide_eq_true_eq] at this
      exact ⟨fun e h' => hup e (this.1 e h'), fun c h' => (hb c (this.2 c h')).symm⟩)
    (fun k hk => by
      have hl : vs.length = (headSlots live ds σ.ne σ.slots 0).2.1.length := s2
      rw [show (headSlots live ds σ.ne σ.slots 0).2.2 + k = σ.ne + (vs.length + k) from by omega, hvl (vs.length + k) (by simp; omega), List.getElem_append_right (by omega)]
      congr 2; omega)
  have hsy : env'' (headBlocks hv (headSlots live ds σ.ne σ.slots 0).2.2 σ.blocks 0).2.2 = (undef, w) := by
    rw [← henv, show (headBlocks hv (headSlots live ds σ.ne σ.slots 0).2.2 σ.blocks 0).2.2 = σ.ne + ((vs ++ ws).map (·.den env' β')).length from by simp; omega]
    exact loopEnv_w
  have hblen : (headBlocks hv (headSlots live ds σ.ne σ.slots 0).2.2 σ.blocks 0).1.length = σ.blocks.length := (headBlocks_len hv σ.blocks _ 0).1
  have hk_lt : ∀ (k : Nat) (hb' : Blk), (headBlocks hv (headSlots live ds σ.ne σ.slots 0).2.2 σ.blocks 0).1[k]? = some (some hb') → k < σ.blocks.length := fun k hb' hk => by
    have := (List.getElem?_eq_some_iff.1 hk).1; omega
  refine ⟨⟨?_, hs.defers, ?_, ?_⟩, by simp [head, s2, b2]⟩
  · refine { blk := ?_, inh := ?_, own := ?_, apart := ?_, glob := h0, past := ?_, wksz := ?_, keep := hs.mem.keep, sz0 := hs.mem.sz0, os := hs.mem.os, tape := hs.mem.tape, output := hs.mem.output }
    · intro k hb' hk
      obtain ⟨sb, e1, e2, e3, e4, e5, e6⟩ := b1 k hb' hk
      obtain ⟨q1, q2, q3⟩ := hs.mem.blk k sb e1
      refine ⟨?_, by rw [e5, q2, e2], e6 q3⟩
      rw [← hb k (hk_lt k hb' hk)]
      unfold Holds at *
      rw [← e4, e5, ← e3]
      exact q1
    · intro k hb' hk
      obtain ⟨sb, e1, _⟩ := b1 k hb' hk
      rw [← hb k (hk_lt k hb' hk)]
      exact hs.mem.inh k sb e1
    · intro k hb' hk ho
      obtain ⟨sb, e1, _, _, e4, _⟩ := b1 k hb' hk
      rw [← hb k (hk_lt k hb' hk)]
      exact hs.mem.own k sb e1 (by rw [e4]; exact ho)
    · intro j k bj bk hjk hj hk ho
      obtain ⟨sj, e1, _, _, e4, _⟩ := b1 j bj hj
      obtain ⟨sk, f1, _⟩ := b1 k bk hk
      rw [← hb j (hk_lt j bj hj), ← hb k (hk_lt k bk hk)]
      exact hs.mem.apart j k sj sk hjk e1 f1 (by rw [e4]; exact ho)
    · intro _ b _ _
      simp only [head]
      rw [hsy]
    · simp only [head]
      rw [hsy]
      exact Nat.le_refl _
  · have h3 : ∀ (sl ss : List Slot) (ne t : Nat) (vs : List At), matchSlots live ds (headSlots live ds ne sl t).1 ss t = some vs → ss.length = sl.length := by
      intro sl
      induction sl with
      | nil => intro ss ne t vs h; cases ss with | nil => rfl | cons => simp [headSlots, matchSlots] at h
      | cons s r ih =>
        intro ss ne t vs h
        cases ss with
        | nil => simp only [headSlots] at h; split at h <;> (try split at h) <;> simp [matchSlots] at h
        | cons s' ss =>
          simp only [headSlots] at h
          simp only [List.length_cons, Nat.add_right_cancel_iff]
          split at h
          · rename_i hl
            split at h
            · simp only [matchSlots, hl, if_true] at h
              split at h
              · split at h
                · cases hm : matchSlots live ds (headSlots live ds (ne + 1) r (t + 1)).1 ss (t + 1) with
                  | none => simp [hm] at h
                  | some q => exact ih ss (ne + 1) (t + 1) q hm
                · cases h
              · rename_i heq; simp at heq
              · cases h
            · simp only [matchSlots, hl, if_true] at h
              exact ih ss ne (t + 1) vs h
          · rename_i hl
            simp only [matchSlots, hl] at h
            simp only [Bool.false_eq_true, if_false] at h
            split at h
            · exact ih ss ne (t + 1) vs h
            · split at h
              · exact ih ss ne (t + 1) vs h
              · split at h
                · exact ih ss ne (t + 1) vs h
                · cases h
    rw [hs.size, h3 _ _ _ _ _ h1]
    exact (headSlots_len live ds σ.slots σ.ne 0).1.symm
  · intro t sl hsl hok
    have := fitS_to s1 t sl hsl hok
    rwa [Nat.zero_add] at this
/-- What stands behind code. -/
abbrev Beh (X : Ctx) (dp : Nat) (σ : St) (env : Env) (β : Nat → Nat) (ls : Nat → List Value → World → Prop) (K : Ex → St → T) (Q : Exit → Act → World → Prop) : Prop :=
  ∀ e σ' env' β' a' w' (ls' : Nat → List Value → World → Prop), wf σ' = true → Sat X σ' env' β' a' w' → Ext σ env β σ' env' β' → (∀ d, d < dp → ls' d = ls d) → (K e σ').den X env' σ'.ne β' σ'.blocks.length ls' → Q (toExit e) a' w'
theorem exec_sound (G : Good X A) : ∀ (fuel dp : Nat) (c : Code) (σ : St) (K : Ex → St → T) (env : Env) (β : Nat → Nat) (a : Act) (w : World) (ls : Nat → List Value → World → Prop) (Q : Exit → Act → World → Prop),
    wf σ = true → Sat X σ env β a w → (exec X.P A fuel dp c σ K).den X env σ.ne β σ.blocks.length ls → Beh X dp σ env β ls K Q → c.wp X.P Q a w
  | 0, dp, c, σ, K, env, β, a, w, ls, Q, hwf, hs, hd, hK => by simp only [exec, T.den] at hd
  | fuel + 1, dp, c, σ, K, env, β, a, w, ls, Q, hwf, hs, hd, hK => by
    have IH := exec_sound G fuel
    cases c with
    | skip => simp only [exec] at hd; exact wp_skip (hK .normal σ env β a w ls hwf hs (Ext.refl _ _ _) (fun _ _ => rfl) hd)
    | region id ops draw =>
      simp only [exec] at hd
      cases draw with
      | false =>
        simp only [Bool.false_eq_true, if_false] at hd
        refine wp_region_list (execOps_sound G (K' := fun a w => Q .normal a w) ops.toList hwf hs hd (fun σ' env' β' a' w' h1 h2 h3 h4 => hK .normal σ' env' β' a' w' ls h1 h2 h3 (fun _ _ => rfl) h4) (fun _ _ h => h))
      | true =>
        simp only [if_true] at hd
        exact execDraw_sound G (K' := fun a w => Q .normal a w) hwf hs hd (fun σ' env' β' a' w' h1 h2 h3 h4 => hK .normal σ' env' β' a' w' ls h1 h2 h3 (fun _ _ => rfl) h4) (fun _ _ h => h)
    | seq x y =>
      simp only [exec] at hd
      refine wp_seq (IH dp x σ _ env β a w ls _ hwf hs hd ?_)
      intro e σ' env' β' a' w' ls' h1 h2 h3 h4 h5
      cases e with
      | normal =>
        exact IH dp y σ' K env' β' a' w' ls' Q h1 h2 h5 (fun e σ'' env'' β'' a'' w'' ls'' k1 k2 k3 k4 k5 => hK e σ'' env'' β'' a'' w'' ls'' k1 k2 (h3.trans k3) (fun d hd => (k4 d hd).trans (h4 d hd)) k5)
      | exit id => exact hK (.exit id) σ' env' β' a' w' ls' h1 h2 h3 h4 h5
      | ret => exact hK .ret σ' env' β' a' w' ls' h1 h2 h3 h4 h5
    | cond c x y =>
      simp only [exec] at hd
      split at hd
      · rename_i t hc
        have := evalO_sound hs (conds_nil _ _) hc
        simp only [SV.den, At.den] at this
        refine wp_cond this ?_
        cases t
        · exact IH dp y σ K env β a w ls Q hwf hs hd hK
        · exact IH dp x σ K env β a w ls Q hwf hs hd hK
      · rename_i i hc
        have hv := evalO_sound hs (conds_nil _ _) hc
        simp only [SV.den] at hv
        simp only [T.den] at hd
        obtain ⟨⟨t, ht⟩, hd1, hd2⟩ := hd
        rw [ht] at hv
        refine wp_cond_split hv (fun h => ?_) (fun h => ?_)
        · subst h; exact IH dp x σ K env β a w ls Q hwf hs (hd1 ht) hK
        · subst h; exact IH dp y σ K env β a w ls Q hwf hs (hd2 ht) hK
      · simp only [T.den] at hd
    | block id x =>
      simp only [exec] at hd
      refine wp_block (IH dp x σ _ env β a w ls _ hwf hs hd ?_)
      intro e σ' env' β' a' w' ls' h1 h2 h3 h4 h5
      cases e with
      | normal => exact hK .normal σ' env' β' a' w' ls' h1 h2 h3 h4 h5
      | exit i =>
        simp only [toExit, Exit.inBlock]
        by_cases hi : i = id
        · subst hi
          simp only [if_true] at h5 ⊢
          exact hK .normal σ' env' β' a' w' ls' h1 h2 h3 h4 h5
        · simp only [if_neg hi] at h5 ⊢
          exact hK (.exit i) σ' env' β' a' w' ls' h1 h2 h3 h4 h5
      | ret => exact hK .ret σ' env' β' a' w' ls' h1 h2 h3 h4 h5
    | exit id => simp only [exec] at hd; exact wp_exit (hK (.exit id) σ env β a w ls hwf hs (Ext.refl _ _ _) (fun _ _ => rfl) hd)
    | ret => simp only [exec] at hd; exact wp_ret (hK .ret σ env β a w ls hwf hs (Ext.refl _ _ _) (fun _ _ => rfl) hd)
    | loop x =>
      simp only [exec] at hd
      split at hd
      · simp only [T.den] at hd
      · split at hd
        · -- unrolled
          have key : ∀ (m : Nat) (σ : St) (env : Env) (β : Nat → Nat) (a : Act) (w : World) (ls : Nat → List Value → World → Prop), wf σ = true → Sat X σ env β a w →
              (rounds (fun σ K => exec X.P A fuel dp x σ K) K m σ).den X env σ.ne β σ.blocks.length ls → Beh X dp σ env β ls K Q → roundsWp X.P x Q m a w := by
            intro m
            induction m with
            | zero => intro σ env β a w ls _ _ hd _; simp only [rounds, T.den] at hd
            | succ m ihm =>
              intro σ env β a w ls hwf hs hd hK
              simp only [rounds] at hd
              refine IH dp x σ _ env β a w ls _ hwf hs hd ?_
              intro e σ' env' β' a' w' ls' h1 h2 h3 h4 h5
              cases e with
              | normal => exact ihm σ' env' β' a' w' ls' h1 h2 h5 (fun e σ'' env'' β'' a'' w'' ls'' k1 k2 k3 k4 k5 => hK e σ'' env'' β'' a'' w'' ls'' k1 k2 (h3.trans k3) (fun d hd => (k4 d hd).trans (h4 d hd)) k5)
              | exit id => exact hK (.exit id) σ' env' β' a' w' ls' h1 h2 h3 h4 h5
              | ret => exact hK .ret σ' env' β' a' w' ls' h1 h2 h3 h4 h5
          exact wp_loop_of_rounds (key A.unroll σ env β a w ls hwf hs hd hK)
        · rename_i _ live hv _
          split at hd
          · simp only [T.den] at hd
          · rename_i us0 hback0
            split at hd
            · simp only [T.den] at hd
            · rename_i hwfh
              have hwfh : wf (head live (dsts x) hv σ).1 = true ∧ σ.sy.live = true := by simpa using hwfh
              obtain ⟨hwfh, hlive⟩ := hwfh
              simp only [T.den] at hd
              obtain ⟨I, μ, hI0, hbody⟩ := hd
              obtain ⟨hs0, hl0⟩ := back_sound hwf (fun g k h => hs.mem.glob g k h) hs (fun _ _ => rfl) (fun _ _ => rfl) hback0
              have hhne : (head live (dsts x) hv σ).1.ne = σ.ne + us0.length + 1 := by
                rw [hl0]
                have e1 := (headSlots_len live (dsts x) σ.slots σ.ne 0).2
                have e2 := (headBlocks_len hv σ.blocks (headSlots live (dsts x) σ.ne σ.slots 0).2.2 0).2
                simp only [head, List.length_append]; omega
              have hhnb : (head live (dsts x) hv σ).1.blocks.length = σ.blocks.length := (headBlocks_len hv σ.blocks _ 0).1
              refine wp_loop_data (ι := List Value × World) (fun us a w => us.1.length = us0.length ∧ I us.1 us.2 ∧ Sat X (head live (dsts x) hv σ).1 (loopEnv X env σ.ne us.1 us.2) β a w) (fun us => μ us.1 us.2) (us0.map (·.den env β), w)
                ⟨by simp, hI0 w (hs.mem.known hlive (fun kb h => by have := (knownBl_get _ 0 kb h).2; simpa using this)), hs0⟩ ?_
              intro ⟨us, u⟩ a1 w1 ⟨hul, hIu, hs1⟩
              simp only at hul hIu hs1
              have hb := allV_apply hul hbody u hIu
              rw [← hul] at hb
              refine IH (dp + 1) x (head live (dsts x) hv σ).1 _ (loopEnv X env σ.ne us u) β a1 w1 _ _ hwfh hs1 (by rw [hhne, hhnb, ← hul]; exact hb) ?_
              intro e σ' env' β' a' w' ls' h1 h2 h3 h4 h5
              have hx : Ext σ env β σ' env' β' := by
                refine ⟨by have := h3.ne; omega, by rw [← hhnb]; exact h3.nb, fun e he => ?_, fun b hb => h3.beta b (by rw [hhnb]; exact hb)⟩
                rw [h3.env e (by omega), loopEnv_lt he]
              have hls : ∀ d, d < dp → ls' d = ls d := fun d hd => by
                rw [h4 d (by omega), upd_ne _ _ (by omega)]
              cases e with
              | normal =>
                simp only at h5
                split at h5
                · rename_i us' hback
                  split at h5
                  · rename_i hlive'
                    simp only [T.den] at h5
                    rw [h4 dp (by omega), upd_same] at h5
                    obtain ⟨hs2, hl2⟩ := back_sound hwf (fun g k h => hs.mem.glob g k h) h2 hx.env hx.beta hback
                    have h6 := h5 w' (h2.mem.known hlive' (fun kb h => by cases h))
                    exact ⟨(us'.map (·.den env' β'), w'), ⟨by simp [hl2, hl0], h6.1, hs2⟩, h6.2⟩
                  · simp only [T.den] at h5
                · simp only [T.den] at h5
              | exit id => exact hK (.exit id) σ' env' β' a' w' ls' h1 h2 hx hls h5
              | ret => exact hK .ret σ' env' β' a' w' ls' h1 h2 hx hls h5
    | _ => simp only [exec, T.den] at hd
/-! ### functions -/
theorem stepLoad_run {σ : St} {env : Env} {β : Nat → Nat} {w : World} {blocks gl} (hm : Mem X σ.sy blocks gl env β w) (hbl : blocks = σ.blocks) {t : TypeId} {x s : SV} (h : stepLoad X.P σ t x = some ⟨[], .val s⟩) :
    (∃ b o, x.den env β = .pointer (some ⟨b, o, none⟩)) ∧ (Instr.loadAt t (x.den env β)).run X.P w = .ok (s.den env β) w := by
  subst hbl
  unfold stepLoad at h
  cases hn : sz X.P t with
  | none => simp [hn] at h
  | some n =>
  cases hag : agg? X.P t with
  | none => simp [hn, hag] at h
  | some ag =>
  simp only [hn, hag, Option.bind_eq_bind, Option.bind_some] at h
  split at h
  · rename_i b o'
    cases hb : blk? σ b with
    | none => simp [hb] at h
    | some bl =>
    simp only [hb, Option.bind_some] at h
    have hblk := hm.blk b bl (blk?_some hb)
    refine ⟨⟨_, _, rfl⟩, ?_⟩
    split at h
    · rename_i l hl
      have hd : bl.cont.den env β = (l.map (At.den env β)).toArray := by rw [hl]; rfl
      split at h
      · rename_i hle
        split at h
        · rename_i hag1
          simp only [Option.some.injEq, Res.mk.injEq, Fin.val.injEq, true_and] at h
          subst h
          simp only [SV.den, At.den]
          refine load_agg (by rw [hag, hag1]) (by rw [hn]; simp; omega) (fun j v hv => holds_cell hblk.1 ?_)
          rw [hd]
          simp only [List.map_take, List.map_drop] at hv
          rw [List.getElem?_take] at hv
          split at hv
          · rw [List.getElem?_drop] at hv; simpa using hv
          · cases hv
        · rename_i hag0
          split at h
          · split at h
            · rename_i at_ hat
              split at h
              · simp only [Option.some.injEq, Res.mk.injEq, Fin.val.injEq, true_and] at h
                subst h
                show Sem.run X.P (Instr.loadAt t (.pointer (some ⟨β b, o', none⟩))) w = .ok (at_.den env β) w
                refine load_one (by rw [hag]; simp at hag0; rw [hag0]) (holds_cell hblk.1 ?_)
                rw [hd]; simp [hat]
              · cases h
            · cases h
          · cases h
      · cases h
    · rename_i i hi
      split at h
      · rename_i hc
        simp only [Bool.and_eq_true, beq_iff_eq] at hc
        obtain ⟨⟨hc1, hc2⟩, hc3⟩ := hc
        simp only [Option.some.injEq, Res.mk.injEq, Fin.val.injEq, true_and] at h
        subst h
        subst hc2
        obtain ⟨hb1, hb2, hb3⟩ := hblk
        have hd : bl.cont.den env β = aggArr (env i).1 := by rw [hi]; rfl
        rw [hi] at hb3
        simp only [Cont.ok] at hb3
        simp only [SV.den, At.den]
        rw [hb3]
        have := load_agg (X := X) (w := w) (t := t) (b := β b) (o := 0) (cs := (aggArr (env i).1).toList) (by rw [hag, hc1]) (by rw [hn, hc3, ← hb2, hd]; simp) (fun j v hv => holds_cell hb1 (by
          rw [hd, Nat.zero_add]; simpa using hv))
        simpa only [Array.toArray_toList] using this
      · split at h <;> simp at h
  · rename_i b base stride i
    cases hb : blk? σ b with
    | none => simp [hb] at h
    | some bl =>
    simp only [hb, Option.bind_some] at h
    split at h <;> simp at h
  · cases h
  · cases h
  · cases h
  · simp at h
def resVal (tmps : Array Value) : ResultVar → Sem Value
  | .tmp t => pure (tmps.getD t undef)
  | .cell b t => do loadVar t (← asAddr (tmps.getD b undef))
theorem results_eq (fn : Func) (tmps : Array Value) : results fn tmps = (do let vs ← fn.results.mapM (resVal tmps); pure (if h : vs.size = 1 then vs[0] else .tuple vs)) := rfl
theorem resComp_sound {σ : St} {env : Env} {β : Nat → Nat} {a : Act} {w : World} (hs : Sat X σ env β a w) {r : ResultVar} {p : List At × Bool} (h : resComp X.P σ r = some p) :
    (resVal a.tmps r).run X.P w = .ok (comp env β p) w := by
  cases r with
  | tmp t =>
    simp only [resComp] at h
    cases he : evalO σ [] (.tmp t) with
    | none => simp [he] at h
    | some s =>
      have := evalO_sound hs (conds_nil _ _) he
      simp only [Act.eval] at this
      cases s <;> simp [he] at h
      · subst h; simp only [resVal, Sem.run_pure, this]; rfl
      · subst h; simp only [resVal, Sem.run_pure, this]; rfl
  | cell b t =>
    simp only [resComp, Option.bind_eq_bind] at h
    cases he : evalO σ [] (.tmp b) with
    | none => simp [he] at h
    | some s =>
    cases hl : stepLoad X.P σ t s with
    | none => simp [he, hl] at h
    | some r =>
    simp only [he, hl, Option.bind_some] at h
    have hv := evalO_sound hs (conds_nil _ _) he
    simp only [Act.eval] at hv
    split at h
    · rename_i a'
      simp only [Option.some.injEq] at h
      subst h
      obtain ⟨⟨b', o', hp⟩, hr⟩ := stepLoad_run hs.mem rfl hl
      rw [hp] at hr hv
      simp only [Instr.loadAt, Instr.sureAddr] at hr
      simpa [resVal, hv, asAddr, comp, SV.den] using hr
    · rename_i as
      simp only [Option.some.injEq] at h
      subst h
      obtain ⟨⟨b', o', hp⟩, hr⟩ := stepLoad_run hs.mem rfl hl
      rw [hp] at hr hv
      simp only [Instr.loadAt, Instr.sureAddr] at hr
      simpa [resVal, hv, asAddr, comp, SV.den] using hr
    · cases h
theorem result_sound {fn : Func} {σ : St} {env : Env} {β : Nat → Nat} {a : Act} {w : World} (hs : Sat X σ env β a w) {s : SV} (h : resultSV X.P fn σ = some s) : (results fn a.tmps).run X.P w = .ok (s.den env β) w := by
  simp only [resultSV, Option.bind_eq_bind] at h
  cases hl : fn.results.toList.mapM (resComp X.P σ) with
  | none => simp [hl] at h
  | some l =>
  simp only [hl, Option.bind_some] at h
  have key : ∀ (rs : List ResultVar) (l : List (List At × Bool)), rs.mapM (resComp X.P σ) = some l →
      (rs.mapM (resVal a.tmps)).run X.P w = .ok (l.map (comp env β)) w := by
    intro rs
    induction rs with
    | nil => intro l h; simp at h; subst h; simp
    | cons r rs ih =>
      intro l h
      simp only [List.mapM_cons, Option.bind_eq_bind, Option.pure_def] at h
      cases h1 : resComp X.P σ r with
      | none => simp [h1] at h
      | some p =>
      cases h2 : rs.mapM (resComp X.P σ) with
      | none => simp [h1, h2] at h
      | some ps =>
      simp [h1, h2] at h
      subst h
      have e1 := resComp_sound hs h1
      have e2 := ih ps h2
      simp only [List.mapM_cons, Sem.run_bind, e1, Result.andThen_ok, e2, Sem.run_pure, List.map_cons]
  have hk := key _ _ hl
  have hmap : (fn.results.mapM (resVal a.tmps)).run X.P w = .ok (l.map (comp env β)).toArray w := by
    rw [Array.mapM_eq_mapM_toList, Sem.run_map, hk]
    simp
  rw [results_eq, Sem.run_bind, hmap]
  simp only [Result.andThen_ok, Sem.run_pure]
  split at h
  · simp only [Option.some.injEq] at h; subst h; rfl
  · simp only [Option.some.injEq] at h; subst h; rfl
  · cases h
  · rename_i h1 h2 h3
    simp only [Option.some.injEq] at h
    subst h
    have hne : ¬ (l.map (comp env β)).toArray.size = 1 := by
      simp only [List.size_toArray, List.length_map]
      intro h0
      match l, h0 with
      | [p], _ =>
        obtain ⟨q, b⟩ := p
        exact h3 _ rfl
    rw [dif_neg hne]
    rfl
theorem leaves_noop {P : Program} {fn : Func} {tmps : Array Value} {R : Ending → World → Prop} {w : World} : ∀ (ds : List Deferred), (∀ d ∈ ds, NoOp P d) → (∃ v, (results fn tmps).run P w = .ok v w ∧ R (.returned v) w) → Leaves P fn tmps R ds .returning w
  | [], _, h => h
  | d :: ds, hd, h => by
    obtain ⟨fv, cap, f, args, h1, h2, h3⟩ := hd d (by simp)
    refine ⟨fun h => by (cases h), fv, cap, f, args, h1, h2 w, ?_⟩
    intro c cs hm
    obtain ⟨e, u', w', fr, ⟨⟨v, rfl⟩, rfl, rfl⟩, hr⟩ := h3 w c cs hm
    exact ⟨_, _, _, fr, leaves_noop ds (fun d h => hd d (by simp [h])) h, hr⟩
/-- **A tree that holds: the call returns, and what it returns is as the tree's ends say.** -/
theorem run_sound (G : Good X A) {f : FuncId} {args : List SV} {blocks : List (Option Blk)} {gl : List (Nat × Nat)} {ne : Nat} {env : Env} {β : Nat → Nat}
    (hm : Mem X ⟨true, ne - 1, []⟩ blocks gl env β X.w0)
    (hd : (run X.P A f args blocks gl ne).den X env ne β blocks.length (fun _ _ _ => False)) :
    Calls X.P f (args.map (·.den env β)).toArray X.w0 fun e w' => ∃ v, e = .returned v ∧ X.R v w' := by
  unfold run at hd
  split at hd
  · simp only [T.den] at hd
  · rename_i fn hfn
    split at hd
    · simp only [T.den] at hd
    · rename_i c hc
      simp only at hd
      split at hd
      · simp only [T.den] at hd
      · rename_i hok
        have hok : (wf ⟨args.map (⟨·, []⟩) ++ List.replicate (fn.ntmps - args.length) ⟨.x (.c undef), []⟩, blocks, gl, ne, ⟨true, ne - 1, []⟩⟩ && args.all okSV && decide (args.length ≤ fn.ntmps)) = true := by simpa using hok
        simp only [Bool.and_eq_true, decide_eq_true_eq] at hok
        obtain ⟨⟨hwf, hokA⟩, hlen⟩ := hok
        refine calls_of_wp_defers hfn hc ?_
        refine exec_sound G 2000 0 c _ _ env β _ X.w0 (fun _ _ _ => False) _ hwf ⟨hm, fun _ h => by (cases h), ?_, ?_⟩ hd ?_
        · simp
        · intro t sl hsl hokS
          simp only at hsl
          rw [List.getElem?_append] at hsl
          rw [Array.getElem?_append]
          simp only [List.length_map, List.size_toArray] at hsl ⊢
          split at hsl
          · rename_i hlt
            rw [if_pos hlt]
            simp only [List.getElem?_map] at hsl
            cases hg : args[t]? with
            | none => simp [hg] at hsl
            | some s =>
              simp [hg] at hsl
              subst hsl
              exact ⟨fun _ => by simp [hg], fun hc => absurd (conds_nil _ _) hc⟩
          · rename_i hge
            rw [if_neg hge]
            rw [List.getElem?_replicate] at hsl
            split at hsl
            · rename_i hlt
              simp only [Option.some.injEq] at hsl
              subst hsl
              refine ⟨fun _ => ?_, fun hc => absurd (conds_nil _ _) hc⟩
              rw [Array.getElem?_replicate, if_pos hlt]
              rfl
            · cases hsl
        · intro e σ' env' β' a' w' ls' h1 h2 h3 h4 h5
          have hend : ∀ (e : Exit), (e = .normal ∨ e = .ret) → (match resultSV X.P fn σ' with | some s => if σ'.sy.live then T.ret s σ'.sy (if (svB s).isEmpty && !clo fn then [] else knownBl σ'.blocks 0) else .fail 25 | none => .fail 15).den X env' σ'.ne β' σ'.blocks.length ls' →
              bodyPostD X.P fn (fun e w' => ∃ v, e = .returned v ∧ X.R v w') e a' w' := by
            intro e he hdd
            split at hdd
            · rename_i s hs
              split at hdd
              · rename_i hlive
                simp only [T.den] at hdd
                have hR := hdd w' (h2.mem.known hlive (fun kb h => by
                  split at h
                  · cases h
                  · have := (knownBl_get _ 0 kb h).2; simpa using this))
                rcases he with rfl | rfl
                · exact leaves_noop _ h2.defers ⟨_, result_sound h2 hs, _, rfl, hR⟩
                · exact leaves_noop _ h2.defers ⟨_, result_sound h2 hs, _, rfl, hR⟩
              · simp only [T.den] at hdd
            · simp only [T.den] at hdd
          cases e with
          | normal => exact hend _ (.inl rfl) h5
          | exit id => simp only [T.den] at h5
          | ret => exact hend _ (.inr rfl) h5
end
end Go.Vc
