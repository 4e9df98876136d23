/-
  The engine is sound, part 5: one operation, whichever it is.
-/
import Derived.Test.YtcnmnmhmmgjblaaGreatDoorVcSound4
import Derived.Great.BuildSlice
namespace Go.Vc
open Go Go.RowKit
section
variable {X : Ctx} {σ : St} {env : Env} {β : Nat → Nat} {a : Act} {w : World} {g : List (At × Bool)}
theorem wfE (hwf : wf σ = true) {t : Nat} {sl : Slot} (h : σ.slots[t]? = some sl) : (∀ e ∈ svE sl.s, e < σ.ne) ∧ (∀ b ∈ svB sl.s, b < σ.blocks.length) ∧ (∀ e ∈ gE sl.g, e < σ.ne) ∧ ∀ b ∈ gB sl.g, b < σ.blocks.length := by
  have := (wf_parts hwf).1 sl (List.mem_of_getElem? h)
  simp only [okSlot, okE, okG, Bool.and_eq_true, List.all_eq_true, decide_eq_true_eq] at this
  exact ⟨this.1.1, this.1.2, this.2.1, this.2.2⟩
theorem evalO_lt (hwf : wf σ = true) {x : Operand} {s : SV} (h : evalO σ g x = some s) : (∀ e ∈ svE s, e < σ.ne) ∧ ∀ b ∈ svB s, b < σ.blocks.length := by
  cases x with
  | tmp t =>
    simp only [evalO] at h
    split at h
    · rename_i sl hsl
      split at h
      · cases h; exact ⟨(wfE hwf hsl).1, (wfE hwf hsl).2.1⟩
      · cases h
    · cases h
  | const v =>
    simp only [evalO, Option.some.injEq] at h
    subst h
    cases v <;> simp [normC, svE, svB, atE, atB]
  | global n =>
    simp only [evalO] at h
    split at h
    · rename_i q b hf
      simp only [Option.some.injEq] at h
      subst h
      have h2 := List.mem_of_find?_eq_some hf
      have := (wf_parts hwf).2.2.1 _ h2
      simp [svE, svB, atE, atB]; exact this
    · simp only [Option.some.injEq] at h
      subst h
      simp [svE, svB, atE, atB]
  | func f =>
    simp only [evalO, Option.some.injEq] at h
    subst h
    simp [svE, svB, atE, atB]
theorem eqGuard_const (op : BinOp) (t : TypeId) (x y : Operand) (u v : Value) : eqGuard op t x y u v = eqGuard op t (constOp (isC x)) (constOp (isC y)) u v := by
  unfold eqGuard
  cases x <;> cases y <;> rfl
theorem foldBin_sound {op : BinOp} {x y : SV} {v : Value} (h : foldBin op x y = some v) (t : TypeId) (xo yo : Operand) :
    (do eqGuard op t xo yo (x.den env β) (y.den env β); binOp op t (x.den env β) (y.den env β) : Sem Value).run X.P w = .ok v w := by
  unfold foldBin at h
  split at h
  · rename_i m n
    simp only [SV.den, At.den]
    cases op <;> simp only [Option.some.injEq] at h <;> first
      | (cases h; done)
      | (subst h; simp [eqGuard, binOp, Op.intArith, Op.intCmp]; done)
      | (split at h <;> first | (cases h; done) | (rename_i h0; simp only [Option.some.injEq] at h; subst h; simp [eqGuard, binOp, Op.intDiv, h0]))
  · cases h
theorem mapM_some {α γ : Type} {f : α → Option γ} : ∀ {l : List α} {r : List γ}, l.mapM f = some r → l.length = r.length ∧ ∀ (i : Nat) (x : α), l[i]? = some x → ∃ y, r[i]? = some y ∧ f x = some y
  | [], r, h => by simp at h; subst h; simp
  | x :: l, r, h => by
    simp only [List.mapM_cons, Option.bind_eq_bind, Option.pure_def] at h
    cases hx : f x with
    | none => simp [hx] at h
    | some y =>
    cases hl : l.mapM f with
    | none => simp [hx, hl] at h
    | some ys =>
    simp [hx, hl] at h
    subst h
    obtain ⟨h1, h2⟩ := mapM_some hl
    refine ⟨by simp [h1], fun i z hz => ?_⟩
    cases i with
    | zero => simp at hz; subst hz; exact ⟨y, by simp, hx⟩
    | succ i => simp at hz ⊢; exact h2 i z hz
theorem mapM_map {α γ δ : Type} {f : α → Option γ} {p : α → δ} {q : γ → δ} {l : List α} {r : List γ} (h : l.mapM f = some r) (hpq : ∀ x ∈ l, ∀ y, f x = some y → p x = q y) : l.map p = r.map q := by
  obtain ⟨h1, h2⟩ := mapM_some h
  apply List.ext_getElem?
  intro i
  rw [List.getElem?_map, List.getElem?_map]
  cases hx : l[i]? with
  | none =>
    have : r[i]? = none := by rw [List.getElem?_eq_none_iff] at hx ⊢; omega
    rw [this]; rfl
  | some x =>
    obtain ⟨y, hy, hf⟩ := h2 i x hx
    rw [hy]
    simp only [Option.map_some]
    rw [hpq x (List.mem_of_getElem? hx) y hf]
theorem field_struct_fold {P : Program} {w : World} (fs : Array Field) (hs : ∀ f ∈ fs.toList, ∃ n, (P.info? f.type).map (·.size) = some n) :
    (fs.mapM fun f => (do pure (f.offset, ← sizeOf f.type) : Sem (Nat × Nat))).run P w = .ok (fs.map fun f => (f.offset, ((P.info? f.type).map (·.size)).getD 0)) w := by
  have key : ∀ (l : List Field), (∀ f ∈ l, ∃ n, (P.info? f.type).map (·.size) = some n) →
      (l.mapM fun f => (do pure (f.offset, ← sizeOf f.type) : Sem (Nat × Nat))).run P w = .ok (l.map fun f => (f.offset, ((P.info? f.type).map (·.size)).getD 0)) w := by
    intro l
    induction l with
    | nil => intro _; simp
    | cons f l ih =>
      intro h
      obtain ⟨n, hn⟩ := h f (by simp)
      cases hi : P.info? f.type with
      | none => simp [hi] at hn
      | some i =>
        have hsz : (sizeOf f.type).run P w = .ok i.size w := by simp [sizeOf, typeInfo, hi]
        have ih' := ih (fun f hf => h f (by simp [hf]))
        simp only [List.mapM_cons, Sem.run_bind, hsz, Result.andThen_ok, Sem.run_pure] at ih' ⊢
        rw [ih']
        simp [hi]
  rw [Array.mapM_eq_mapM_toList, Sem.run_map, key fs.toList hs]
  simp only [Result.andThen_ok]
  congr 1
  apply Array.ext'
  simp
theorem build_sound {t : TypeId} {ps : List (Nat × SV)} {z : List At} {ns : List Nd} {l : List At} {v0 : Value} (hz : (X.P.info? t).bind (·.zero) = some v0) (hz' : z.map (At.den env β) = v0.cells.toList)
    (hzE : z.flatMap atE = []) (hok : placesOk X.P t = true) (hb : buildParts X.P t σ.ne ps z = some (ns, l)) (hE : ∀ p ∈ ps, ∀ e ∈ svE p.2, e < σ.ne) :
    (∀ nd ∈ ns, nd.pl = true) ∧ ∀ vs, Chain X β ns env σ.ne vs →
      (Instr.build t (ps.map fun p => (p.1, p.2.den env β)).toArray).run X.P w = .ok ((SV.l l).den (updl env σ.ne vs) β) w := by
  unfold placesOk at hok
  split at hok
  · rename_i fs hu
    have hs : ∀ f ∈ fs.toList, ∃ n, (X.P.info? f.type).map (·.size) = some n := fun f hf => by
      have := List.all_eq_true.1 hok f hf
      exact Option.isSome_iff_exists.1 this
    have hfold := field_struct_fold (P := X.P) (w := w) fs hs
    obtain ⟨h1, h2⟩ := buildParts_sound (X := X) (β := β) (fun i => (fs.map fun f => (f.offset, ((X.P.info? f.type).map (·.size)).getD 0))[i]?) (t := t) (fun i off n ag h => by
      obtain ⟨f, hf, ho, hn⟩ := placeOf_struct hu h
      unfold sz at hn
      simp [hf, ho, hn]) ps σ.ne z ns l hb
    refine ⟨h1, fun vs hv => ?_⟩
    have h3 := h2 env vs hE (by rw [hzE]; simp) hv
    rw [hz'] at h3
    simp only [Instr.build, Sem.run_bind, run_zero hz, Result.andThen_ok, run_underlying hu, hfold]
    simp only [Array.toArray_toList] at h3 ⊢
    rw [h3]
    rfl
  · rename_i m e hu
    obtain ⟨s, hs⟩ := Option.isSome_iff_exists.1 hok
    obtain ⟨h1, h2⟩ := buildParts_sound (X := X) (β := β) (fun i => some (i * s, s)) (t := t) (fun i off n ag h => by
      obtain ⟨ho, hn⟩ := placeOf_array hu h
      rw [hs] at hn; cases hn; rw [ho]) ps σ.ne z ns l hb
    refine ⟨h1, fun vs hv => ?_⟩
    have h3 := h2 env vs hE (by rw [hzE]; simp) hv
    rw [hz'] at h3
    simp only [Instr.build, Sem.run_bind, run_zero hz, Result.andThen_ok, run_underlying hu, run_sz hs]
    simp only [Array.toArray_toList] at h3 ⊢
    rw [h3]
    rfl
  · cases hok
theorem zeroAts_E {t : TypeId} {z : List At} (h : zeroAts X.P t = some z) : z.flatMap atE = [] := by
  unfold zeroAts at h
  split at h
  · cases h
    rw [List.flatMap_eq_nil_iff]
    intro x hx
    obtain ⟨v, _, rfl⟩ := List.mem_map.1 hx
    rfl
  · cases h
theorem build_zero {t : TypeId} {v0 : Value} (hz : (X.P.info? t).bind (·.zero) = some v0) (hok : placesOk X.P t = true) :
    (Instr.build t #[]).run X.P w = .ok (.agg v0.cells) w := by
  unfold placesOk at hok
  split at hok
  · rename_i fs hu
    have hs : ∀ f ∈ fs.toList, ∃ n, (X.P.info? f.type).map (·.size) = some n := fun f hf => by
      have := List.all_eq_true.1 hok f hf
      exact Option.isSome_iff_exists.1 this
    have hfold := field_struct_fold (P := X.P) (w := w) fs hs
    simp only [Instr.build, Sem.run_bind, run_zero hz, Result.andThen_ok, run_underlying hu, hfold]
    rfl
  · rename_i m e hu
    obtain ⟨s, hs⟩ := Option.isSome_iff_exists.1 hok
    simp only [Instr.build, Sem.run_bind, run_zero hz, Result.andThen_ok, run_underlying hu, run_sz hs]
    rfl
  · cases hok
theorem tmpArgs_sound {ev : Operand → Option SV} {ρ : Operand → Value} (hev : ∀ t s, ev (.tmp t) = some s → ρ (.tmp t) = s.den env β) : ∀ {xs : List Operand} {l : List (Nat × SV)}, tmpArgs ev xs = some l →
    (∀ t, Operand.tmp t ∈ xs → argsFn (l.map fun p => (p.1, p.2.den env β)) (.tmp t) = ρ (.tmp t)) ∧ ∀ p ∈ l, ev (.tmp p.1) = some p.2
  | [], l, h => by simp [tmpArgs] at h; subst h; simp
  | .tmp t :: r, l, h => by
    simp only [tmpArgs] at h
    split at h
    · rename_i s l' hs hl
      cases h
      obtain ⟨h1, h2⟩ := tmpArgs_sound hev hl
      refine ⟨fun t' ht' => ?_, fun p hp => ?_⟩
      · simp only [argsFn, List.map_cons, List.find?_cons]
        by_cases he : t = t'
        · subst he; simp [hev t s hs]
        · have hb : (t == t') = false := by simpa using he
          simp only [hb]
          have : Operand.tmp t' ∈ r := by simpa [Ne.symm he] using ht'
          simpa [argsFn] using h1 t' this
      · simp only [List.mem_cons] at hp
        rcases hp with rfl | hp
        · exact hs
        · exact h2 p hp
    · cases h
  | .const v :: r, l, h => by
    simp only [tmpArgs] at h
    obtain ⟨h1, h2⟩ := tmpArgs_sound hev h
    exact ⟨fun t ht => h1 t (by simpa using ht), h2⟩
  | .global v :: r, l, h => by
    simp only [tmpArgs] at h
    obtain ⟨h1, h2⟩ := tmpArgs_sound hev h
    exact ⟨fun t ht => h1 t (by simpa using ht), h2⟩
  | .func v :: r, l, h => by
    simp only [tmpArgs] at h
    obtain ⟨h1, h2⟩ := tmpArgs_sound hev h
    exact ⟨fun t ht => h1 t (by simpa using ht), h2⟩
theorem argsFn_other (l : List (Nat × Value)) (x : Operand) (hx : ∀ t, x ≠ .tmp t) : argsFn l x = a.eval x := by
  cases x <;> first | rfl | exact absurd rfl (hx _)
theorem gen_sound {o : Oper} {l : List (Nat × SV)} (hsel : ∀ cs b, o.op ≠ .select cs b) (hargs : ∀ t, Operand.tmp t ∈ o.op.operands → argsFn (l.map fun p => (p.1, p.2.den env β)) (.tmp t) = a.eval (.tmp t))
    (hp : PreChain X β [.gen o.op o.type l] env σ.ne) {K : Act → World → Prop} {Q : Exit → Act → World → Prop} (hK : After X σ env β a w o.dst ⟨[.gen o.op o.type l], .val (.x (.v σ.ne))⟩ K) : o.wp X.P a w K Q := by
  refine one_sound rfl hp (fun v hv => ?_) hK
  have hc : execOp a.eval o = execOp (argsFn (l.map fun p => (p.1, p.2.den env β))) o := by
    refine execOp_congr o hsel fun x hx => ?_
    cases x with
    | tmp t => exact (hargs t hx).symm
    | _ => exact (argsFn_other _ _ (by simp)).symm
  have := hv w
  rw [hc]
  simp only [SV.den, At.den, upd_same]
  obtain ⟨dst, op, ty, pos, after, guard⟩ := o
  exact this
theorem Sat.known (hs : Sat X σ env β a w) (hl : σ.sy.live = true) : Known X env β σ.sy (knownBl σ.blocks 0) w :=
  hs.mem.known hl fun kb h => by have := (knownBl_get _ 0 kb h).2; simpa using this
theorem genOp_sound {o : Oper} {r : Res} (hs : Sat X σ env β a w) (hg : conds env β g) (hok : genOk o.op = true) (h : genOp σ g o = some r)
    (hp : PreChain X β r.nds env σ.ne) {K : Act → World → Prop} {Q : Exit → Act → World → Prop} (hK : After X σ env β a w o.dst r K) : o.wp X.P a w K Q := by
  unfold genOp at h
  cases hl : tmpArgs (evalO σ g) o.op.operands.toList with
  | none => simp [hl] at h
  | some l =>
    simp only [hl, Option.bind_eq_bind, Option.bind_some, one, Option.some.injEq] at h
    subst h
    obtain ⟨h1, h2⟩ := tmpArgs_sound (env := env) (β := β) (ρ := a.eval) (fun t s h => evalO_sound hs hg h) hl
    exact gen_sound (fun cs b he => by rw [he] at hok; cases hok) (fun t' ht' => h1 t' (by simpa using ht')) hp hK
/-- An effect. -/
theorem effOut_value {op : Op} {v : Value} (h : mute op = false) : effOut op v = .value v := by
  unfold effOut
  rw [h]; rfl
theorem eff_sound {o : Oper} {l : List (Nat × SV)} {md : Bool} (hs : Sat X σ env β a w) (hl : σ.sy.live = true) (hst : mute o.op = false) (hsel : ∀ cs b, o.op ≠ .select cs b) (hargs : ∀ t, Operand.tmp t ∈ o.op.operands → argsFn (l.map fun p => (p.1, p.2.den env β)) (.tmp t) = a.eval (.tmp t))
    (hp : PreChain X β [.eff o.op o.type l md σ.sy (knownBl σ.blocks 0)] env σ.ne) {K : Act → World → Prop} {Q : Exit → Act → World → Prop}
    (hK : After X σ env β a w o.dst ⟨[.eff o.op o.type l md σ.sy (knownBl σ.blocks 0)], .eff (.x (.v σ.ne)) md⟩ K) : o.wp X.P a w K Q := by
  have hkn := hs.known hl
  obtain ⟨v, w', hrun, hkeep⟩ := hp.1 w hkn
  have hc : execOp a.eval o = execOp (argsFn (l.map fun p => (p.1, p.2.den env β))) o := by
    refine execOp_congr o hsel fun x hx => ?_
    cases x with
    | tmp t => exact (hargs t hx).symm
    | _ => exact (argsFn_other _ _ (by simp)).symm
  have h1 := hK [(v, w')] w' ⟨⟨w, hkn, hrun⟩, rfl⟩ (by simp) (by show (upd env σ.ne (v, w') (σ.ne + 1 - 1)).2 = w'; rw [Nat.add_sub_cancel, upd_same]) hkeep
  simp only [SV.den, At.den, updl, upd_same] at h1
  refine wp_of_value (v := v) (w' := w') ?_ h1
  rw [hc]
  rw [effOut_value hst] at hrun
  obtain ⟨dst, op, ty, pos, after, guard⟩ := o
  exact hrun
theorem sto_sound {o : Oper} {l : List (Nat × SV)} (hs : Sat X σ env β a w) (hl : σ.sy.live = true) (hst : mute o.op = true) (hsel : ∀ cs b, o.op ≠ .select cs b) (hargs : ∀ t, Operand.tmp t ∈ o.op.operands → argsFn (l.map fun p => (p.1, p.2.den env β)) (.tmp t) = a.eval (.tmp t))
    (hp : PreChain X β [.eff o.op o.type l true σ.sy (knownBl σ.blocks 0)] env σ.ne) {K : Act → World → Prop} {Q : Exit → Act → World → Prop}
    (hK : After X σ env β a w o.dst ⟨[.eff o.op o.type l true σ.sy (knownBl σ.blocks 0)], .eff (.x (.c undef)) true⟩ K) : o.wp X.P a w K Q := by
  have hkn := hs.known hl
  obtain ⟨v, w', hrun, hkeep⟩ := hp.1 w hkn
  have hc : execOp a.eval o = execOp (argsFn (l.map fun p => (p.1, p.2.den env β))) o := by
    refine execOp_congr o hsel fun x hx => ?_
    cases x with
    | tmp t => exact (hargs t hx).symm
    | _ => exact (argsFn_other _ _ (by simp)).symm
  have h1 := hK [(v, w')] w' ⟨⟨w, hkn, hrun⟩, rfl⟩ (by simp) (by show (upd env σ.ne (v, w') (σ.ne + 1 - 1)).2 = w'; rw [Nat.add_sub_cancel, upd_same]) hkeep
  simp only [SV.den, At.den] at h1
  refine wp_of_skip (w' := w') ?_ h1
  rw [hc]
  have ho : effOut o.op v = .skip := by unfold effOut; rw [hst]; rfl
  rw [ho] at hrun
  obtain ⟨dst, op, ty, pos, after, guard⟩ := o
  exact hrun
theorem effOp_sound {o : Oper} {md : Bool} {r : Res} (hs : Sat X σ env β a w) (hg : conds env β g) (hst : mute o.op = false) (hsel : ∀ cs b, o.op ≠ .select cs b) (h : effOp σ g o md = some r)
    (hp : PreChain X β r.nds env σ.ne) {K : Act → World → Prop} {Q : Exit → Act → World → Prop} (hK : After X σ env β a w o.dst r K) : o.wp X.P a w K Q := by
  unfold effOp at h
  split at h
  · rename_i hl
    cases ht : tmpArgs (evalO σ g) o.op.operands.toList with
    | none => simp [ht] at h
    | some l =>
    simp only [ht, Option.bind_eq_bind, Option.bind_some, Option.some.injEq] at h
    subst h
    obtain ⟨h1, h2⟩ := tmpArgs_sound (env := env) (β := β) (ρ := a.eval) (fun t s h => evalO_sound hs hg h) ht
    exact eff_sound hs hl hst hsel (fun t ht => h1 t (by simpa using ht)) hp hK
  · cases h
theorem stoOp_sound {o : Oper} {r : Res} (hs : Sat X σ env β a w) (hg : conds env β g) (hst : mute o.op = true) (hsel : ∀ cs b, o.op ≠ .select cs b) (h : stoOp σ g o = some r)
    (hp : PreChain X β r.nds env σ.ne) {K : Act → World → Prop} {Q : Exit → Act → World → Prop} (hK : After X σ env β a w o.dst r K) : o.wp X.P a w K Q := by
  unfold stoOp at h
  split at h
  · rename_i hl
    cases ht : tmpArgs (evalO σ g) o.op.operands.toList with
    | none => simp [ht] at h
    | some l =>
    simp only [ht, Option.bind_eq_bind, Option.bind_some, Option.some.injEq] at h
    subst h
    obtain ⟨h1, h2⟩ := tmpArgs_sound (env := env) (β := β) (ρ := a.eval) (fun t s h => evalO_sound hs hg h) ht
    exact sto_sound hs hl hst hsel (fun t ht => h1 t (by simpa using ht)) hp hK
  · cases h
theorem isC_args {parts : Array (Nat × Operand)} (h : parts.all (fun p => isC p.2) = true) (e : Operand → Value) (he : ∀ v, e (.const v) = v) : (parts.map fun (i, x) => (i, e x)) = (parts.map fun (i, x) => (i, argsFn [] x)) := by
  apply Array.map_congr_left
  intro p hp
  have := Array.all_eq_true_iff_forall_mem.1 h p hp
  obtain ⟨i, x⟩ := p
  cases x with
  | const v => simp [he, argsFn]
  | _ => simp [isC] at this
theorem lit_sound {o : Oper} {t : TypeId} {len : Nat} {parts : Array (Nat × Operand)} {r : Res} (hop : o.op = .buildSlice t len parts) (h : litOp X.P t len parts = some r) {K : Act → World → Prop} {Q : Exit → Act → World → Prop} (hK : After X σ env β a w o.dst r K) : o.wp X.P a w K Q := by
  unfold litOp at h
  split at h
  · rename_i e hu
    split at h
    · rename_i ie hie
      split at h
      · rename_i z hz
        split at h
        · rename_i hc
          simp only [Bool.and_eq_true, decide_eq_true_eq] at hc
          split at h
          · rename_i cells hf
            simp only [Option.some.injEq] at h
            subst h
            rw [← isC_args hc.1.1 a.eval (fun v => rfl)] at hf
            have hrun : (execOp a.eval o).run X.P w = .ok (.value (.slice (some ⟨w.heap.size, 0, none⟩) len len)) (w.alloc (.cells cells e)) := by
              unfold execOp
              rw [hop]
              simp only [Sem.run_bind, run_buildSlice w t e len _ cells ie z hu hie hz hc.1.2 hc.2 hf, Result.andThen_ok]
              rfl
            have hd : (Cont.en (cells.toList.map .c)).den (updl env σ.ne []) β = cells := by
              apply Array.ext'
              simp [Cont.den, At.den, Function.comp_def]
            refine wp_of_value hrun ?_
            have := hK [] rfl (by rw [hd]) trivial rfl
            simp only at this
            rwa [hd] at this
          · cases h
        · cases h
      · cases h
    · cases h
  · cases h
theorem step_sound {A : Ann} (G : Good X A) {o : Oper} (hs : Sat X σ env β a w) (hg : conds env β g) (hwf : wf σ = true) {r : Res} (h : step X.P A σ g o = some r)
    (hp : PreChain X β r.nds env σ.ne) (hGw : X.G w) {K : Act → World → Prop} {Q : Exit → Act → World → Prop} (hK : After X σ env β a w o.dst r K) : o.wp X.P a w K Q := by
  have ev : ∀ {x : Operand} {s : SV}, evalO σ g x = some s → a.eval x = s.den env β := fun h => evalO_sound hs hg h
  have evE : ∀ {x : Operand} {s : SV}, evalO σ g x = some s → ∀ e ∈ svE s, e < σ.ne := fun h => (evalO_lt hwf h).1
  have one' : ∀ {n : Nd}, one σ n = some r → r = ⟨[n], .val (.x (.v σ.ne))⟩ := fun h => by simp only [one, Option.some.injEq] at h; exact h.symm
  unfold step at h
  simp only at h
  split at h
  · -- move
    rename_i x hop
    cases hx : evalO σ g x with
    | none => simp [hx] at h
    | some s =>
    simp only [hx, Option.bind_eq_bind, Option.bind_some, Option.some.injEq] at h
    subst h
    exact val_sound (by simp [execOp, hop, ev hx]) hK
  · rename_i x hop
    cases hx : evalO σ g x with
    | none => simp [hx] at h
    | some s =>
    simp only [hx, Option.bind_eq_bind, Option.bind_some, Option.some.injEq] at h
    subst h
    exact val_sound (by simp [execOp, hop, ev hx]) hK
  · -- pick
    rename_i c x y hop
    cases hc : evalO σ g c with
    | none => simp [hc] at h
    | some cs =>
    simp only [hc, Option.bind_eq_bind, Option.bind_some] at h
    split at h
    · rename_i t
      cases hx : evalO σ g (if t then x else y) with
      | none => simp [hx] at h
      | some s =>
      simp only [hx, Option.bind_some, Option.some.injEq] at h
      subst h
      have := ev hc
      simp only [SV.den, At.den] at this
      refine val_sound ?_ hK
      have hxy := ev hx
      cases t <;> simp_all [execOp, asBool]
    · rename_i i
      cases hx : evalO σ (g ++ [(.v i, true)]) x with
      | none => simp [hx] at h
      | some s =>
      cases hy : evalO σ (g ++ [(.v i, false)]) y with
      | none => simp [hx, hy] at h
      | some u =>
      simp only [hx, hy, Option.bind_some] at h
      have := one' h
      subst this
      refine one_sound rfl hp (fun v hv => ?_) hK
      obtain ⟨h1, h2, t, ht⟩ := hv
      have hcv := ev hc
      rw [ht] at hcv
      have hgi : conds env β (g ++ [(.v i, t)]) := conds_iff.2 fun q hq => by
        rcases List.mem_append.1 hq with hq | hq
        · exact conds_iff.1 hg q hq
        · simp at hq; subst hq; exact ht
      simp only [SV.den, At.den, upd_same]
      cases t with
      | true => rw [h1 ht]; have := evalO_sound hs hgi hx; simp [execOp, hop, hcv, asBool, this]
      | false => rw [h2 ht]; have := evalO_sound hs hgi hy; simp [execOp, hop, hcv, asBool, this]
    · cases h
  · -- alloc
    rename_i t hop
    split at h
    · exact effOp_sound hs hg (by rw [hop]; rfl) (fun cs b => by rw [hop]; simp) h hp hK
    cases hz : zeroAts X.P t with
    | none => simp [hz] at h
    | some z =>
    simp only [hz, Option.bind_eq_bind, Option.bind_some] at h
    obtain ⟨v0, hv0, hzd⟩ := zeroAts_sound (X := X) (env := env) (β := β) hz
    have hc : (Cont.en z).den env β = v0.cells := by apply Array.ext'; simpa [Cont.den] using hzd
    have hrun : (execOp a.eval o).run X.P w = .ok (.value (.pointer (some ⟨w.heap.size, 0, none⟩))) (w.alloc (.cells ((Cont.en z).den env β) t)) := by
      rw [hc]; simp [execOp, hop, Instr.alloc, run_zero hv0, newVar, newRow]
    split at h
    · simp only [Option.some.injEq] at h
      subst h
      obtain ⟨v, hv⟩ : ∃ v, (Nd.asAgg z.length (.l z)).den X env β v := hp.1
      obtain ⟨hv1, arr, hv2, hv3, hv4⟩ := hv
      have hw : (updl env σ.ne [v] σ.ne).1 = .agg arr := by show (upd env σ.ne v σ.ne).1 = _; rw [upd_same, hv1, hv2]
      have hc' : (Cont.wh σ.ne).den (updl env σ.ne [v]) β = (Cont.en z).den env β := by
        show aggArr (updl env σ.ne [v] σ.ne).1 = _
        rw [hw]
        simp only [SV.den, Value.agg.injEq] at hv2
        rw [← hv2]; rfl
      rw [← hc'] at hrun
      refine wp_of_value hrun (hK [v] ⟨⟨hv1, arr, hv2, hv3, hv4⟩, rfl⟩ ?_ ?_ rfl)
      · show (aggArr (updl env σ.ne [v] σ.ne).1).size = z.length
        rw [hw]; exact hv3
      · show (updl env σ.ne [v] σ.ne).1 = .agg (aggArr (updl env σ.ne [v] σ.ne).1)
        rw [hw]; rfl
    · simp only [Option.some.injEq] at h
      subst h
      exact wp_of_value hrun (hK [] rfl (by simp [Cont.den, updl]) trivial rfl)
  · -- box
    rename_i t x hop
    split at h
    · exact effOp_sound hs hg (by rw [hop]; rfl) (fun cs b => by rw [hop]; simp) h hp hK
    cases hx : evalO σ g x with
    | none => simp [hx] at h
    | some s =>
    cases hn : sz X.P t with
    | none => simp [hx, hn] at h
    | some n =>
    cases hag : agg? X.P t with
    | none => simp [hx, hn, hag] at h
    | some ag =>
    simp only [hx, hn, hag, Option.bind_eq_bind, Option.bind_some] at h
    have hrun : (execOp a.eval o).run X.P w = .ok (.value (.pointer (some ⟨w.heap.size, 0, none⟩))) (w.alloc (.cells (s.den env β).cells t)) := by
      simp [execOp, hop, ev hx, Instr.box, newVar, newRow]
    split at h
    · rename_i ns l hex
      simp only [Option.some.injEq] at h
      subst h
      have hex : expand σ.ne n ag s = some (ns, l) := by
        split at hex
        · cases hex
        · exact hex
      obtain ⟨h1, h2, h3⟩ := expand_sound (X := X) (β := β) hex
      obtain ⟨vs, hvs⟩ := chain_exists ns env σ.ne h1 hp
      obtain ⟨hd, _⟩ := h3 env vs (evE hx) hvs
      have hc : (Cont.en l).den (updl env σ.ne vs) β = (s.den env β).cells := by apply Array.ext'; simpa [Cont.den] using hd.symm
      rw [← hc] at hrun
      exact wp_of_value hrun (hK vs hvs (by simp [Cont.den, h2]) trivial rfl)
    · split at h
      · rename_i hag1
        simp only [Option.some.injEq] at h
        subst h
        obtain ⟨v, hv⟩ : ∃ v, (Nd.asAgg n s).den X env β v := hp.1
        obtain ⟨hv1, arr, hv2, hv3, hv4⟩ := hv
        have hw : (updl env σ.ne [v] σ.ne).1 = .agg arr := by show (upd env σ.ne v σ.ne).1 = _; rw [upd_same, hv1, hv2]
        have hc : (Cont.wh σ.ne).den (updl env σ.ne [v]) β = (s.den env β).cells := by
          show aggArr (updl env σ.ne [v] σ.ne).1 = _
          rw [hw, hv2]; rfl
        rw [← hc] at hrun
        refine wp_of_value hrun (hK [v] ⟨⟨hv1, arr, hv2, hv3, hv4⟩, rfl⟩ ?_ ?_ rfl)
        · show (aggArr (updl env σ.ne [v] σ.ne).1).size = n
          rw [hw]; exact hv3
        · show (updl env σ.ne [v] σ.ne).1 = .agg (aggArr (updl env σ.ne [v] σ.ne).1)
          rw [hw]; rfl
      · cases h
  · -- build
    rename_i t parts hop
    split at h
    · rename_i hp0
      cases hz : zeroAts X.P t with
      | none => simp [hz] at h
      | some z =>
      simp only [hz, Option.bind_eq_bind, Option.bind_some] at h
      split at h
      · rename_i hc
        simp only [Bool.and_eq_true, beq_iff_eq] at hc
        simp only [Option.some.injEq] at h
        subst h
        obtain ⟨v0, hv0, hzd⟩ := zeroAts_sound (X := X) (env := env) (β := β) hz
        have he : parts = #[] := Array.size_eq_zero_iff.1 hp0
        have := build_zero (X := X) (w := w) hv0 hc.2
        refine val_sound ?_ hK
        simp only [execOp, hop, he]
        have hd : (SV.l z).den env β = .agg v0.cells := by simp only [SV.den]; rw [hzd]
        rw [hd]
        simp [this]
      · cases h
    · cases hps : parts.toList.mapM (partOf σ g) with
      | none => simp [hps] at h
      | some ps =>
      simp only [hps, Option.bind_eq_bind, Option.bind_some] at h
      cases hz : zeroAts X.P t with
      | none => simp [hz] at h
      | some z =>
      simp only [hz, Option.bind_some] at h
      have hparts : (parts.map fun (p : Nat × Operand) => (p.1, a.eval p.2)) = (ps.map fun p => (p.1, p.2.den env β)).toArray := by
        apply Array.ext'
        rw [Array.toList_map]
        refine mapM_map hps fun p hp q hq => ?_
        cases he : evalO σ g p.2 with
        | none => simp [partOf, he] at hq
        | some s => simp [partOf, he] at hq; subst hq; simp [ev he]
      have hpsE : ∀ p ∈ ps, ∀ e ∈ svE p.2, e < σ.ne := fun p hp => by
        obtain ⟨i, hi⟩ := List.mem_iff_getElem?.1 hp
        obtain ⟨h1, h2⟩ := mapM_some hps
        have hlt : i < parts.toList.length := by rw [h1]; exact (List.getElem?_eq_some_iff.1 hi).1
        obtain ⟨q, hq, hf⟩ := h2 i _ (List.getElem?_eq_getElem hlt)
        rw [hi] at hq
        cases hq
        cases he : evalO σ g (parts.toList[i]).2 with
        | none => simp only [partOf, he] at hf; cases hf
        | some s => simp only [partOf, he, Option.some.injEq] at hf; subst hf; exact evE he
      have hexec : (execOp a.eval o) = (do pure (.value (← Instr.build t (ps.map fun p => (p.1, p.2.den env β)).toArray))) := by
        rw [← hparts]
        simp only [execOp, hop]
      split at h
      · rename_i ns l hok hb
        simp only [Option.some.injEq] at h
        subst h
        obtain ⟨v0, hv0, hzd⟩ := zeroAts_sound (X := X) (env := env) (β := β) hz
        obtain ⟨h1, h2⟩ := build_sound (X := X) (w := w) hv0 hzd (zeroAts_E hz) hok hb hpsE
        obtain ⟨vs, hvs⟩ := chain_exists ns env σ.ne h1 hp
        have := h2 vs hvs
        exact wp_of_value (by rw [hexec]; simp [this]) (hK vs w hvs (Below.refl _ _))
      · have := one' h
        subst this
        refine one_sound rfl hp (fun v hv => ?_) hK
        have hvw := hv w
        rw [hexec, Sem.run_bind, hvw]
        show Result.ok (Next.value v.1) w = Result.ok (Next.value (upd env σ.ne v σ.ne).1) w
        rw [upd_same]
  · -- load
    rename_i t x hop
    cases hx : evalO σ g x with
    | none => simp [hx] at h
    | some s =>
    simp only [hx, Option.bind_eq_bind, Option.bind_some] at h
    exact stepLoad_sound hs hop (ev hx) h hp hK
  · -- store
    rename_i t x y hop
    cases hx : evalO σ g x with
    | none => simp [hx] at h
    | some s =>
    simp only [hx, Option.bind_eq_bind, Option.bind_some] at h
    split at h
    · exact stoOp_sound hs hg (by rw [hop]; rfl) (fun cs b => by rw [hop]; simp) h hp hK
    · cases hy : evalO σ g y with
      | none => simp [hy] at h
      | some u =>
        simp only [hy, Option.bind_some] at h
        exact stepStore_sound hs hop (ev hx) (ev hy) (evE hy) hwf h hp hK
  · -- nilCheck
    rename_i x hop
    cases hx : evalO σ g x with
    | none => simp [hx] at h
    | some s =>
    simp only [hx, Option.bind_eq_bind, Option.bind_some] at h
    split at h
    · simp only [Option.some.injEq] at h
      subst h
      refine val_sound ?_ hK
      have := ev hx
      simp only [SV.den, At.den] at this
      simp [execOp, hop, this, SV.den, At.den]
    · simp only [Option.some.injEq] at h
      subst h
      refine val_sound ?_ hK
      have := ev hx
      simp only [SV.den, At.den] at this
      simp [execOp, hop, this, SV.den, At.den]
    · rename_i s' t _ _
      have := one' h
      subst this
      refine gen_sound (fun cs b => by rw [hop]; simp) (fun t' ht' => ?_) hp hK
      rw [hop] at ht'
      simp [Op.operands] at ht'
      subst ht'
      simp [argsFn, ev hx]
    · cases h
  · -- binOp
    rename_i op t x y _ hop
    cases hx : evalO σ g x with
    | none => simp [hx] at h
    | some s =>
    cases hy : evalO σ g y with
    | none => simp [hx, hy] at h
    | some u =>
    simp only [hx, hy, Option.bind_eq_bind, Option.bind_some] at h
    have hexec : ∀ v, (do eqGuard op t x y (s.den env β) (u.den env β); binOp op t (s.den env β) (u.den env β) : Sem Value).run X.P w = .ok v w → (execOp a.eval o).run X.P w = .ok (.value v) w := fun v hv => by
      simp only [execOp, hop, ev hx, ev hy]
      rw [Sem.run_bind, hv]
      rfl
    split at h
    · rename_i v hf
      simp only [Option.some.injEq] at h
      subst h
      exact val_sound (hexec _ (foldBin_sound hf t x y)) hK
    · have := one' h
      subst this
      refine one_sound rfl hp (fun v hv => hexec _ ?_) hK
      have := hv w
      simp only [SV.den, At.den, upd_same]
      rw [eqGuard_const]
      exact this
  · -- unOp
    rename_i op t x hop
    cases hx : evalO σ g x with
    | none => simp [hx] at h
    | some s =>
    simp only [hx, Option.bind_eq_bind, Option.bind_some] at h
    have := one' h
    subst this
    refine one_sound rfl hp (fun v hv => ?_) hK
    have := hv w
    simp only [SV.den, At.den, upd_same]
    simp [execOp, hop, ev hx, this]
  · -- convert
    rename_i s' d x hop
    split at h
    · exact effOp_sound hs hg (by rw [hop]; rfl) (fun cs b => by rw [hop]; simp) h hp hK
    cases hx : evalO σ g x with
    | none => simp [hx] at h
    | some s =>
    simp only [hx, Option.bind_eq_bind, Option.bind_some] at h
    have := one' h
    subst this
    refine one_sound rfl hp (fun v hv => ?_) hK
    have := hv w
    simp only [SV.den, At.den, upd_same]
    simp [execOp, hop, ev hx, this]
  · -- extract
    rename_i x i hop
    cases hx : evalO σ g x with
    | none => simp [hx] at h
    | some s =>
    simp only [hx, Option.bind_eq_bind, Option.bind_some] at h
    split at h
    · rename_i ss
      split at h
      · rename_i l hl
        simp only [Option.some.injEq] at h
        subst h
        refine val_sound ?_ hK
        have := ev hx
        simp only [SV.den] at this
        simp [execOp, hop, this, Instr.extract, hl, comp, SV.den]
      · rename_i at_ hl
        simp only [Option.some.injEq] at h
        subst h
        refine val_sound ?_ hK
        have := ev hx
        simp only [SV.den] at this
        simp [execOp, hop, this, Instr.extract, hl, comp, SV.den]
      · cases h
    · have := one' h
      subst this
      refine one_sound rfl hp (fun v hv => ?_) hK
      have := hv w
      simp only [SV.den, At.den, upd_same]
      simp [execOp, hop, ev hx, this]
  · -- indexAddr
    rename_i t x i hop
    cases hx : evalO σ g x with
    | none => simp [hx] at h
    | some s =>
    cases hy : evalO σ g i with
    | none => simp [hx, hy] at h
    | some u =>
    simp only [hx, hy, Option.bind_eq_bind, Option.bind_some] at h
    exact stepIndexAddr_sound hop (ev hx) (ev hy) h hp hK
  · -- fieldAddr
    rename_i t x f hop
    cases hx : evalO σ g x with
    | none => simp [hx] at h
    | some s =>
    simp only [hx, Option.bind_eq_bind, Option.bind_some] at h
    exact stepFieldAddr_sound hop (ev hx) h hp hK
  · -- field
    rename_i t x f hop
    cases hx : evalO σ g x with
    | none => simp [hx] at h
    | some s =>
    simp only [hx, Option.bind_eq_bind, Option.bind_some] at h
    have := one' h
    subst this
    refine one_sound rfl hp (fun v hv => ?_) hK
    have := hv w
    simp only [SV.den, At.den, upd_same]
    simp [execOp, hop, ev hx, this]
  · -- index
    rename_i t x i hop
    cases hx : evalO σ g x with
    | none => simp [hx] at h
    | some s =>
    cases hy : evalO σ g i with
    | none => simp [hx, hy] at h
    | some u =>
    simp only [hx, hy, Option.bind_eq_bind, Option.bind_some] at h
    have := one' h
    subst this
    refine one_sound rfl hp (fun v hv => ?_) hK
    have := hv w
    simp only [SV.den, At.den, upd_same]
    simp [execOp, hop, ev hx, ev hy, this]
  · -- slice
    rename_i t x lo hi mx hop
    cases hx : evalO σ g x with
    | none => simp [hx] at h
    | some s =>
    simp only [hx, Option.bind_eq_bind, Option.bind_some] at h
    have hopt : ∀ {y : Option Operand} {q : Option SV}, (match y with | none => some none | some y => (evalO σ g y).map some) = some q → y.map a.eval = q.map (·.den env β) := fun {y q} hq => by
      cases y with
      | none => simp at hq; subst hq; rfl
      | some y =>
        cases he : evalO σ g y with
        | none => simp [he] at hq
        | some u => simp [he] at hq; subst hq; simp [ev he]
    simp only [Option.bind_eq_some_iff] at h
    obtain ⟨q1, e1, q2, e2, q3, e3, h⟩ := h
    have := one' h
    subst this
    refine one_sound rfl hp (fun v hv => ?_) hK
    have := hv w
    simp only [SV.den, At.den, upd_same]
    simp [execOp, hop, ev hx, hopt e1, hopt e2, hopt e3, this]
  · -- makeFunc
    rename_i fn first captured hop
    cases hl : tmpArgs (evalO σ g) (first.toList ++ captured.toList) with
    | none => simp [hl] at h
    | some l =>
    simp only [hl, Option.bind_eq_bind, Option.bind_some] at h
    have := one' h
    subst this
    obtain ⟨h1, h2⟩ := tmpArgs_sound (env := env) (β := β) (ρ := a.eval) (fun t s h => ev h) hl
    refine gen_sound (fun cs b => by rw [hop]; simp) (fun t' ht' => ?_) hp hK
    rw [hop] at ht'
    simp [Op.operands] at ht'
    exact h1 t' (by simpa using ht')
  · -- buildSlice
    rename_i t len parts hop
    split at h
    · exact lit_sound hop h hK
    · exact effOp_sound hs hg (by rw [hop]; rfl) (fun cs b => by rw [hop]; simp) h hp hK
  · rename_i hop
    exact effOp_sound hs hg (by rw [hop]; rfl) (fun cs b => by rw [hop]; simp) h hp hK
  · rename_i hop
    exact effOp_sound hs hg (by rw [hop]; rfl) (fun cs b => by rw [hop]; simp) h hp hK
  · rename_i hop
    exact effOp_sound hs hg (by rw [hop]; rfl) (fun cs b => by rw [hop]; simp) h hp hK
  · rename_i hop
    exact stoOp_sound hs hg (by rw [hop]; rfl) (fun cs b => by rw [hop]; simp) h hp hK
  · -- a func value is called
    rename_i t args _ hop
    split at h
    · rename_i md hdyn
      split at h
      · rename_i hlive
        cases hx : evalO σ g (.tmp t) with
        | none => simp [hx] at h
        | some x =>
        cases hl : args.toList.mapM (evalO σ g) with
        | none => simp [hx, hl] at h
        | some l =>
        simp only [hx, hl, Option.bind_eq_bind, Option.bind_some, Option.some.injEq] at h
        subst h
        have hargs : args.map a.eval = (l.map (·.den env β)).toArray := by
          apply Array.ext'
          rw [Array.toList_map]
          exact mapM_map hl fun x _ y hy => ev hy
        have hkn := hs.known hlive
        have hpre := hp.1
        simp only [Nd.pre] at hpre
        obtain ⟨f, p, q, hf, henter, hpre⟩ := hpre
        obtain ⟨hpre1, hpre2⟩ := hpre w hkn
        have hcalls := G.callsW f _ w hpre1 hGw
        have hv : a.eval (.tmp t) = .func (.func f) p q := (ev hx).trans hf
        have hrun : (execOp a.eval o).run X.P w = .ok (.enter f (p.toList ++ l.map (·.den env β) ++ q.toList).toArray) w := by
          have := henter (p ++ (l.map (·.den env β)).toArray ++ q) w
          simp only [execOp, hop, resolve, Deferred.ofValue, invoke, hargs, hv, Sem.run_bind, Sem.run_pure, Result.andThen_ok]
          rw [this]
          congr 2
          apply Array.ext'
          simp
        unfold Oper.wp
        rw [hrun]
        refine Calls.mono hcalls fun e w' ⟨v, he, hpost, hk⟩ => ?_
        subst he
        have := hK [(v, w')] w' ⟨⟨w, f, p, q, hkn, hf, hpost⟩, rfl⟩ (by simp) (by show (upd env σ.ne (v, w') (σ.ne + 1 - 1)).2 = w'; rw [Nat.add_sub_cancel, upd_same])
          ⟨hk.os, hk.tape, hk.output, hk.size, fun b hb hbl => hk.block b hb fun hm => by
            obtain ⟨m1, m2, m3⟩ := hpre2 b hm
            rcases hbl m1 with h | h
            · exact h m2
            · exact m3 h⟩
        simpa [SV.den, At.den, updl, upd_same] using this
      · cases h
    · cases h
  · -- a method of an interface value
    rename_i recv name args _ hop
    cases hx : evalO σ g recv with
    | none => simp [hx] at h
    | some x =>
    cases hl : args.toList.mapM (evalO σ g) with
    | none => simp [hx, hl] at h
    | some l =>
    simp only [hx, hl, Option.bind_eq_bind, Option.bind_some] at h
    have hargs : args.map a.eval = (l.map (·.den env β)).toArray := by
      apply Array.ext'
      rw [Array.toList_map]
      exact mapM_map hl fun x _ y hy => ev hy
    split at h
    rotate_left
    · rename_i md hdyn
      split at h
      · rename_i hlive
        simp only [Option.some.injEq] at h
        subst h
        have hkn := hs.known hlive
        have hpre := hp.1
        simp only [Nd.pre] at hpre
        obtain ⟨f, as, hm, hpre⟩ := hpre
        obtain ⟨hpre1, hpre2⟩ := hpre w hkn
        have hcalls := G.callsW f as w hpre1 hGw
        have hrun : (execOp a.eval o).run X.P w = .ok (.enter f as.toArray) w := by
          have := hm w
          simp only [execOp, hop, resolve, hargs, ev hx, Sem.run_bind, Sem.run_pure, Result.andThen_ok]
          exact this
        unfold Oper.wp
        rw [hrun]
        refine Calls.mono hcalls fun e w' ⟨v, he, hpost, hk⟩ => ?_
        subst he
        have := hK [(v, w')] w' ⟨⟨w, f, as, hkn, hm, hpost⟩, rfl⟩ (by simp) (by show (upd env σ.ne (v, w') (σ.ne + 1 - 1)).2 = w'; rw [Nat.add_sub_cancel, upd_same])
          ⟨hk.os, hk.tape, hk.output, hk.size, fun b hb hbl => hk.block b hb fun hm => by
            obtain ⟨m1, m2, m3⟩ := hpre2 b hm
            rcases hbl m1 with h | h
            · exact h m2
            · exact m3 h⟩
        simpa [SV.den, At.den, updl, upd_same] using this
      · cases h
    have := one' h
    subst this
    have hpre := hp.1
    simp only [Nd.pre] at hpre
    obtain ⟨f, as, hm, hpre⟩ := hpre
    have hcalls := G.calls f as w hpre hGw
    have hrun : (execOp a.eval o).run X.P w = .ok (.enter f as.toArray) w := by
      have := hm w
      simp only [execOp, hop, resolve, hargs, ev hx, Sem.run_bind, Sem.run_pure, Result.andThen_ok]
      exact this
    unfold Oper.wp
    rw [hrun]
    refine Calls.mono hcalls fun e w' ⟨v, he, hpost, hbel⟩ => ?_
    subst he
    have := hK [(v, w')] w' ⟨⟨f, as, hm, hpost⟩, rfl⟩ hbel
    simpa [SV.den, At.den, updl, upd_same] using this
  · rename_i hop
    exact effOp_sound hs hg (by rw [hop]; rfl) (fun cs b => by rw [hop]; simp) h hp hK
  · rename_i hop
    exact effOp_sound hs hg (by rw [hop]; rfl) (fun cs b => by rw [hop]; simp) h hp hK
  · rename_i hop
    exact effOp_sound hs hg (by rw [hop]; rfl) (fun cs b => by rw [hop]; simp) h hp hK
  · -- len
    rename_i args argTypes hop
    cases h0 : args[0]? with
    | none => simp [h0] at h
    | some x =>
    cases h1 : argTypes[0]? with
    | none => simp [h0, h1] at h
    | some t =>
    simp only [h0, h1, Option.bind_eq_bind, Option.bind_some] at h
    split at h
    · rename_i hc
      simp only [Bool.and_eq_true, beq_iff_eq] at hc
      obtain ⟨⟨hc1, hc2⟩, hc3⟩ := hc
      cases hx : evalO σ g x with
      | none => simp [hx] at h
      | some s =>
      simp only [hx, Option.bind_some] at h
      have := one' h
      subst this
      refine one_sound rfl hp (fun v hv => ?_) hK
      have := hv w
      have e1 : args = #[x] := by
        apply Array.ext'
        have hl : args.toList.length = 1 := by simpa using hc1
        match hm : args.toList, hl with
        | [y], _ =>
          have : args.toList[0]? = some x := by rw [Array.getElem?_toList]; exact h0
          rw [hm] at this; simp at this; subst this; rfl
      have e2 : argTypes = #[t] := by
        apply Array.ext'
        have hl : argTypes.toList.length = 1 := by simpa using hc2
        match hm : argTypes.toList, hl with
        | [y], _ =>
          have : argTypes.toList[0]? = some t := by rw [Array.getElem?_toList]; exact h1
          rw [hm] at this; simp at this; subst this; rfl
      simp only [SV.den, At.den, upd_same]
      simp [execOp, hop, e1, e2, resolve, invoke, builtin, ev hx, this, hc3]
    · cases h
  · -- call
    rename_i f args _ hop
    split at h
    · rename_i hin
      cases hl : args.toList.mapM (evalO σ g) with
      | none => simp [hl] at h
      | some l =>
      simp only [hl, Option.bind_eq_bind, Option.bind_some] at h
      have := one' h
      subst this
      have hargs : args.map a.eval = (l.map (·.den env β)).toArray := by
        apply Array.ext'
        rw [Array.toList_map]
        exact mapM_map hl fun x _ y hy => ev hy
      have hcalls := G.calls f (l.map (·.den env β)) w (by have := hp.1; simpa only [Nd.pre] using this) hGw
      have hrun : (execOp a.eval o).run X.P w = .ok (.enter f (l.map (·.den env β)).toArray) w := by
        have := G.enters f (by simpa using hin) (l.map (·.den env β)).toArray w
        simp only [execOp, hop, resolve, Deferred.ofValue, invoke, hargs, Act.eval, Sem.run_bind, Sem.run_pure, Result.andThen_ok, Array.empty_append, Array.append_empty]
        exact this
      unfold Oper.wp
      rw [hrun]
      refine Calls.mono hcalls fun e w' ⟨v, he, hpost, hbel⟩ => ?_
      subst he
      have := hK [(v, w')] w' ⟨hpost, rfl⟩ hbel
      simpa [SV.den, At.den, updl, upd_same] using this
    · split at h
      · -- a callee by a contract over worlds
        rename_i q md hfind
        split at h
        · rename_i hlive
          cases hl : args.toList.mapM (evalO σ g) with
          | none => simp [hl] at h
          | some l =>
          simp only [hl, Option.bind_eq_bind, Option.bind_some, Option.some.injEq] at h
          subst h
          have hargs : args.map a.eval = (l.map (·.den env β)).toArray := by
            apply Array.ext'
            rw [Array.toList_map]
            exact mapM_map hl fun x _ y hy => ev hy
          have hkn := hs.known hlive
          have hpre := hp.1
          simp only [Nd.pre] at hpre
          obtain ⟨hpre1, hpre2⟩ := hpre w hkn
          have hcalls := G.callsW f (l.map (·.den env β)) w hpre1 hGw
          have hq : q = f := by have := List.find?_some hfind; simpa using this
          have hrun : (execOp a.eval o).run X.P w = .ok (.enter f (l.map (·.den env β)).toArray) w := by
            have := G.entersW (q, md) (List.mem_of_find?_eq_some hfind) (l.map (·.den env β)).toArray w
            rw [hq] at this
            simp only [execOp, hop, resolve, Deferred.ofValue, invoke, hargs, Act.eval, Sem.run_bind, Sem.run_pure, Result.andThen_ok, Array.empty_append, Array.append_empty]
            exact this
          unfold Oper.wp
          rw [hrun]
          refine Calls.mono hcalls fun e w' ⟨v, he, hpost, hk⟩ => ?_
          subst he
          have := hK [(v, w')] w' ⟨⟨w, hkn, hpost⟩, rfl⟩ (by simp) (by show (upd env σ.ne (v, w') (σ.ne + 1 - 1)).2 = w'; rw [Nat.add_sub_cancel, upd_same])
            ⟨hk.os, hk.tape, hk.output, hk.size, fun b hb hbl => hk.block b hb fun hm => by
              obtain ⟨m1, m2, m3⟩ := hpre2 b hm
              rcases hbl m1 with h | h
              · exact h m2
              · exact m3 h⟩
          simpa [SV.den, At.den, updl, upd_same] using this
        · cases h
      · split at h
        · cases h
        cases hl : tmpArgs (evalO σ g) args.toList with
        | none => simp [hl] at h
        | some l =>
        simp only [hl, Option.bind_eq_bind, Option.bind_some] at h
        have := one' h
        subst this
        obtain ⟨h1, h2⟩ := tmpArgs_sound (env := env) (β := β) (ρ := a.eval) (fun t s h => ev h) hl
        refine gen_sound (fun cs b => by rw [hop]; simp) (fun t' ht' => ?_) hp hK
        rw [hop] at ht'
        simp [Op.operands, Call.operands] at ht'
        exact h1 t' (by simpa using ht')
  · split at h
    · rename_i hok
      exact genOp_sound hs hg hok h hp hK
    · cases h
end
end Go.Vc
