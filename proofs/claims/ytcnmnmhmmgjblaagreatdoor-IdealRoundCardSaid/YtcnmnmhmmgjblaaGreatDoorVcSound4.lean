import Derived.Test.YtcnmnmhmmgjblaaGreatDoorVcDefs
/-
  The engine is sound, part 1: what a value says hangs on the numbers that it names; what is known of memory and of the frame.
-/
namespace Go.Vc
open Go Go.RowKit
theorem upd_same {α : Type} (f : Nat → α) (i : Nat) (v : α) : upd f i v i = v := by simp [upd]
theorem upd_ne {α : Type} (f : Nat → α) {i j : Nat} (v : α) (h : j ≠ i) : upd f i v j = f j := by simp [upd, h]
theorem updl_lt {α : Type} (vs : List α) : ∀ (f : Nat → α) (i j : Nat), j < i → updl f i vs j = f j := by
  induction vs with
  | nil => intro f i j _; rfl
  | cons v vs ih => intro f i j h; simp only [updl]; rw [ih _ _ _ (by omega), upd_ne _ _ (by omega)]
theorem updl_append {α : Type} (vs us : List α) : ∀ (f : Nat → α) (i : Nat), updl f i (vs ++ us) = updl (updl f i vs) (i + vs.length) us := by
  induction vs with
  | nil => intro f i; rfl
  | cons v vs ih => intro f i; simp only [List.cons_append, updl, ih, List.length_cons]; rw [show i + 1 + vs.length = i + (vs.length + 1) from by omega]
theorem updl_get {α : Type} (vs : List α) : ∀ (f : Nat → α) (i k : Nat) (h : k < vs.length), updl f i vs (i + k) = vs[k] := by
  induction vs with
  | nil => intro f i k h; simp at h
  | cons v vs ih =>
    intro f i k h
    simp only [updl]
    cases k with
    | zero => rw [updl_lt _ _ _ _ (by omega)]; exact upd_same f i v
    | succ k =>
      have := ih (upd f i v) (i + 1) k (by simpa using h)
      rw [show i + (k + 1) = i + 1 + k from by omega, this]; rfl
section congr
variable {env env' : Env} {β β' : Nat → Nat}
theorem At.den_congr {a : At} (he : ∀ e ∈ atE a, env e = env' e) (hb : ∀ b ∈ atB a, β b = β' b) : a.den env β = a.den env' β' := by
  cases a <;> simp only [At.den, atE, atB, List.mem_singleton, forall_eq, List.not_mem_nil] at * <;> simp [*]
theorem ats_congr {l : List At} (he : ∀ e ∈ l.flatMap atE, env e = env' e) (hb : ∀ b ∈ l.flatMap atB, β b = β' b) : l.map (At.den env β) = l.map (At.den env' β') :=
  List.map_congr_left fun a ha => At.den_congr (fun e h => he e (List.mem_flatMap.2 ⟨a, ha, h⟩)) (fun e h => hb e (List.mem_flatMap.2 ⟨a, ha, h⟩))
theorem SV.den_congr {s : SV} (he : ∀ e ∈ svE s, env e = env' e) (hb : ∀ b ∈ svB s, β b = β' b) : s.den env β = s.den env' β' := by
  cases s with
  | x a => exact At.den_congr he hb
  | l as => simp only [SV.den]; rw [ats_congr he hb]
  | t ss =>
    simp only [SV.den]
    congr 2
    refine List.map_congr_left fun p hp => ?_
    have h1 : ∀ e ∈ p.1.flatMap atE, env e = env' e := fun e h => he e (List.mem_flatMap.2 ⟨p, hp, h⟩)
    have h2 : ∀ e ∈ p.1.flatMap atB, β e = β' e := fun e h => hb e (List.mem_flatMap.2 ⟨p, hp, h⟩)
    obtain ⟨l, b⟩ := p
    cases b with
    | true => simp only [comp]; rw [ats_congr h1 h2]
    | false =>
      cases l with
      | nil => rfl
      | cons a l => exact At.den_congr (fun e h => h1 e (by simp [h])) (fun e h => h2 e (by simp [h]))
theorem Cont.den_congr {c : Cont} (he : ∀ e ∈ contE c, env e = env' e) (hb : ∀ b ∈ contB c, β b = β' b) : c.den env β = c.den env' β' := by
  cases c with
  | en l => simp only [Cont.den]; rw [ats_congr he hb]
  | wh i => simp only [Cont.den]; rw [he i (by simp [contE])]
theorem Pos.den_congr {p : Pos} (he : ∀ e ∈ posE p, env e = env' e) : p.den env = p.den env' := by
  obtain ⟨b, s, i⟩ := p
  cases i with
  | none => rfl
  | some i => simp only [Pos.den]; rw [he i (by simp [posE])]
theorem opt_congr {o : Option SV} (he : ∀ e ∈ oE o, env e = env' e) (hb : ∀ b ∈ oB o, β b = β' b) : o.map (·.den env β) = o.map (·.den env' β') := by
  cases o with
  | none => rfl
  | some s => simp only [Option.map_some]; rw [SV.den_congr he hb]
theorem svs_congr {l : List SV} (he : ∀ e ∈ l.flatMap svE, env e = env' e) (hb : ∀ b ∈ l.flatMap svB, β b = β' b) : l.map (·.den env β) = l.map (·.den env' β') :=
  List.map_congr_left fun a ha => SV.den_congr (fun e h => he e (List.mem_flatMap.2 ⟨a, ha, h⟩)) (fun e h => hb e (List.mem_flatMap.2 ⟨a, ha, h⟩))
theorem parts_congr {l : List (Nat × SV)} (he : ∀ e ∈ l.flatMap (fun p => svE p.2), env e = env' e) (hb : ∀ b ∈ l.flatMap (fun p => svB p.2), β b = β' b) :
    (l.map fun p => (p.1, p.2.den env β)) = l.map fun p => (p.1, p.2.den env' β') :=
  List.map_congr_left fun a ha => by rw [SV.den_congr (fun e h => he e (List.mem_flatMap.2 ⟨a, ha, h⟩)) (fun e h => hb e (List.mem_flatMap.2 ⟨a, ha, h⟩))]
theorem conds_congr {g : List (At × Bool)} (he : ∀ e ∈ gE g, env e = env' e) (hb : ∀ b ∈ gB g, β b = β' b) : conds env β g ↔ conds env' β' g := by
  rw [conds_iff, conds_iff]
  refine ⟨fun h x hx => ?_, fun h x hx => ?_⟩
  · rw [← At.den_congr (fun e h => he e (List.mem_flatMap.2 ⟨x, hx, h⟩)) (fun e h => hb e (List.mem_flatMap.2 ⟨x, hx, h⟩))]; exact h x hx
  · rw [At.den_congr (fun e h => he e (List.mem_flatMap.2 ⟨x, hx, h⟩)) (fun e h => hb e (List.mem_flatMap.2 ⟨x, hx, h⟩))]; exact h x hx
theorem Cont.ok_congr {c : Cont} (he : ∀ e ∈ contE c, env e = env' e) (h : c.ok env) : c.ok env' := by
  cases c with
  | en l => trivial
  | wh i => simp only [Cont.ok] at *; rw [← he i (by simp [contE])]; exact h
theorem Known.congr {X : Ctx} {y : Sy} {bl : List (Nat × Blk)} {w : World} (hs : env y.s = env' y.s) (how : ∀ k ∈ y.ow, β k = β' k) (hE : ∀ e ∈ bl.flatMap (fun kb => contE kb.2.cont), env e = env' e)
    (hB : ∀ b ∈ bl.flatMap (fun kb => kb.1 :: contB kb.2.cont), β b = β' b) (h : Known X env β y bl w) : Known X env' β' y bl w := by
  have e1 : y.ow.map β = y.ow.map β' := List.map_congr_left fun k hk => how k hk
  have e2 : bl.map (toKB env β) = bl.map (toKB env' β') := List.map_congr_left fun kb hkb => by
    have e3 : β kb.1 = β' kb.1 := hB kb.1 (List.mem_flatMap.2 ⟨kb, hkb, by simp⟩)
    have hd := Cont.den_congr (c := kb.2.cont) (fun e he => hE e (List.mem_flatMap.2 ⟨kb, hkb, he⟩)) (fun c hc => hB c (List.mem_flatMap.2 ⟨kb, hkb, by simp [hc]⟩))
    simp only [toKB, e3, hd]
  unfold Known at *
  rw [← hs, ← e1, ← e2]
  exact h
theorem Known.congr_iff {X : Ctx} {y : Sy} {bl : List (Nat × Blk)} {w : World} (hs : env y.s = env' y.s) (how : ∀ k ∈ y.ow, β k = β' k) (hE : ∀ e ∈ bl.flatMap (fun kb => contE kb.2.cont), env e = env' e)
    (hB : ∀ b ∈ bl.flatMap (fun kb => kb.1 :: contB kb.2.cont), β b = β' b) : Known X env β y bl w ↔ Known X env' β' y bl w :=
  ⟨Known.congr hs how hE hB, Known.congr hs.symm (fun k hk => (how k hk).symm) (fun e he => (hE e he).symm) (fun b hb => (hB b hb).symm)⟩
theorem tr_congr {bl : List (Nat × Blk)} (hB : ∀ b ∈ bl.flatMap (fun kb => kb.1 :: contB kb.2.cont), β b = β' b) : (bl.map fun kb => β kb.1) = bl.map fun kb => β' kb.1 :=
  List.map_congr_left fun kb hkb => hB kb.1 (List.mem_flatMap.2 ⟨kb, hkb, by simp⟩)
theorem Nd.den_congr {X : Ctx} (v : Val) : ∀ {n : Nd}, (∀ e ∈ ndE n, env e = env' e) → (∀ b ∈ ndB n, β b = β' b) →
    (n.den X env β v ↔ n.den X env' β' v)
  | .bin op t cx cy x y, he, hb => by simp only [Nd.den]; rw [SV.den_congr (s := x) (fun e h => he e (by simp [ndE, h])) (fun e h => hb e (by simp [ndB, h])), SV.den_congr (s := y) (fun e h => he e (by simp [ndE, h])) (fun e h => hb e (by simp [ndB, h]))]
  | .un .., he, hb | .conv .., he, hb | .ext .., he, hb | .fad .., he, hb | .fld .., he, hb | .len .., he, hb | .asAgg .., he, hb | .ix .., he, hb => by
    simp only [Nd.den]; rw [SV.den_congr he hb]
  | .loadU t x y, he, hb => by
    simp only [Nd.den]
    rw [SV.den_congr (s := x) (fun e h => he e (by simp [ndE, h])) (fun e h => hb e (by simp [ndB, h]))]
    have hk : ∀ w, Known X env β y [] w ↔ Known X env' β' y [] w := fun w => Known.congr_iff (he _ (by simp [ndE])) (fun k hk => hb k (by simp [ndB, hk])) (fun e h => by simp at h) (fun b h => by simp at h)
    simp only [hk]
  | .eff op ty ps md y bl, he, hb => by
    simp only [Nd.den]
    rw [parts_congr (l := ps) (fun e h => he e (List.mem_cons_of_mem _ (List.mem_append_left _ h))) (fun b h => hb b (List.mem_append_left _ (List.mem_append_right _ h)))]
    have hk : ∀ w, Known X env β y bl w ↔ Known X env' β' y bl w := fun w => Known.congr_iff (he _ (by simp [ndE])) (fun k hk => hb k (List.mem_append_left _ (List.mem_append_left _ hk))) (fun e h => he e (List.mem_cons_of_mem _ (List.mem_append_right _ h))) (fun b h => hb b (List.mem_append_right _ h))
    simp only [hk]
  | .callW f l md y bl, he, hb => by
    simp only [Nd.den]
    rw [svs_congr (l := l) (fun e h => he e (List.mem_cons_of_mem _ (List.mem_append_left _ h))) (fun b h => hb b (List.mem_append_left _ (List.mem_append_right _ h)))]
    have hk : ∀ w, Known X env β y bl w ↔ Known X env' β' y bl w := fun w => Known.congr_iff (he _ (by simp [ndE])) (fun k hk => hb k (List.mem_append_left _ (List.mem_append_left _ hk))) (fun e h => he e (List.mem_cons_of_mem _ (List.mem_append_right _ h))) (fun b h => hb b (List.mem_append_right _ h))
    simp only [hk]
  | .callJ x m l md y bl, he, hb => by
    simp only [Nd.den]
    rw [svs_congr (l := l) (fun e h => he e (List.mem_cons_of_mem _ (List.mem_append_left _ (by simp only [List.flatMap_cons, List.mem_append]; exact .inr h)))) (fun b h => hb b (List.mem_append_left _ (List.mem_append_right _ (by simp only [List.flatMap_cons, List.mem_append]; exact .inr h)))),
      SV.den_congr (s := x) (fun e h => he e (List.mem_cons_of_mem _ (List.mem_append_left _ (by simp only [List.flatMap_cons, List.mem_append]; exact .inl h)))) (fun b h => hb b (List.mem_append_left _ (List.mem_append_right _ (by simp only [List.flatMap_cons, List.mem_append]; exact .inl h))))]
    have hk : ∀ w, Known X env β y bl w ↔ Known X env' β' y bl w := fun w => Known.congr_iff (he _ (by simp [ndE])) (fun k hk => hb k (List.mem_append_left _ (List.mem_append_left _ hk))) (fun e h => he e (List.mem_cons_of_mem _ (List.mem_append_right _ h))) (fun b h => hb b (List.mem_append_right _ h))
    simp only [hk]
  | .callV x l md y bl, he, hb => by
    simp only [Nd.den]
    rw [svs_congr (l := l) (fun e h => he e (List.mem_cons_of_mem _ (List.mem_append_left _ (by simp only [List.flatMap_cons, List.mem_append]; exact .inr h)))) (fun b h => hb b (List.mem_append_left _ (List.mem_append_right _ (by simp only [List.flatMap_cons, List.mem_append]; exact .inr h)))),
      SV.den_congr (s := x) (fun e h => he e (List.mem_cons_of_mem _ (List.mem_append_left _ (by simp only [List.flatMap_cons, List.mem_append]; exact .inl h)))) (fun b h => hb b (List.mem_append_left _ (List.mem_append_right _ (by simp only [List.flatMap_cons, List.mem_append]; exact .inl h))))]
    have hk : ∀ w, Known X env β y bl w ↔ Known X env' β' y bl w := fun w => Known.congr_iff (he _ (by simp [ndE])) (fun k hk => hb k (List.mem_append_left _ (List.mem_append_left _ hk))) (fun e h => he e (List.mem_cons_of_mem _ (List.mem_append_right _ h))) (fun b h => hb b (List.mem_append_right _ h))
    simp only [hk]
  | .plain .., he, hb => by simp only [Nd.den]; rw [At.den_congr he hb]
  | .iad t x i, he, hb | .idx t x i, he, hb => by
    simp only [Nd.den]; rw [SV.den_congr (s := x) (fun e h => he e (by simp [ndE, h])) (fun e h => hb e (by simp [ndB, h])), SV.den_congr (s := i) (fun e h => he e (by simp [ndE, h])) (fun e h => hb e (by simp [ndB, h]))]
  | .slc t x lo hi mx, he, hb => by
    simp only [Nd.den]
    rw [SV.den_congr (s := x) (fun e h => he e (by simp [ndE, h])) (fun e h => hb e (by simp [ndB, h])),
      opt_congr (o := lo) (fun e h => he e (by simp [ndE, h])) (fun e h => hb e (by simp [ndB, h])),
      opt_congr (o := hi) (fun e h => he e (by simp [ndE, h])) (fun e h => hb e (by simp [ndB, h])),
      opt_congr (o := mx) (fun e h => he e (by simp [ndE, h])) (fun e h => hb e (by simp [ndB, h]))]
  | .bld t ps, he, hb => by simp only [Nd.den]; rw [parts_congr he hb]
  | .gen op ty ps, he, hb => by simp only [Nd.den]; rw [parts_congr he hb]
  | .pick c a b, he, hb => by
    simp only [Nd.den]
    rw [SV.den_congr (s := c) (fun e h => he e (by simp [ndE, h])) (fun e h => hb e (by simp [ndB, h])),
      SV.den_congr (s := a) (fun e h => he e (by simp [ndE, h])) (fun e h => hb e (by simp [ndB, h])),
      SV.den_congr (s := b) (fun e h => he e (by simp [ndE, h])) (fun e h => hb e (by simp [ndB, h]))]
  | .sel c p m ag, he, hb => by
    simp only [Nd.den]
    rw [Cont.den_congr (c := c) (fun e h => he e (by simp [ndE, h])) (fun e h => hb e (by simpa [ndB] using h)), Pos.den_congr (p := p) (fun e h => he e (by simp [ndE, h]))]
  | .upd c p m x, he, hb => by
    simp only [Nd.den]
    rw [Cont.den_congr (c := c) (fun e h => he e (by simp [ndE, h])) (fun e h => hb e (by simp [ndB, h])), Pos.den_congr (p := p) (fun e h => he e (by simp [ndE, h])),
      SV.den_congr (s := x) (fun e h => he e (by simp [ndE, h])) (fun e h => hb e (by simp [ndB, h]))]
  | .call f l, he, hb => by simp only [Nd.den]; rw [svs_congr he hb]
  | .dfr x l, he, hb => by simp only [Nd.den]
  | .callI x m l, he, hb => by
    simp only [Nd.den]
    rw [svs_congr (l := l) (fun e h => he e (List.mem_append_right _ h)) (fun b h => hb b (List.mem_append_right _ h)), SV.den_congr (s := x) (fun e h => he e (List.mem_append_left _ h)) (fun b h => hb b (List.mem_append_left _ h))]
  | .guard g n, he, hb => by
    simp only [Nd.den]
    have hsy : ∀ s, n.sync? = some s → env s = env' s := fun s hs => he s (by
      cases n <;> simp [Nd.sync?] at hs <;> (subst hs; simp [ndE]))
    have h2 : offW env v n.sync? ↔ offW env' v n.sync? := by
      cases hq : n.sync? with
      | none => exact Iff.rfl
      | some s => simp only [offW]; rw [hsy s hq]
    rw [conds_congr (g := g) (fun e h => he e (by simp [ndE, h])) (fun e h => hb e (by simp [ndB, h])),
      Nd.den_congr v (n := n) (fun e h => he e (by simp [ndE, h])) (fun e h => hb e (by simp [ndB, h])), h2]
theorem Nd.pre_congr {X : Ctx} : ∀ {n : Nd}, (∀ e ∈ ndE n, env e = env' e) → (∀ b ∈ ndB n, β b = β' b) →
    (n.pre X env β ↔ n.pre X env' β')
  | .call f l, he, hb => by simp only [Nd.pre]; rw [svs_congr he hb]
  | .dfr x l, he, hb => by
    simp only [Nd.pre]
    rw [svs_congr (l := l) (fun e h => he e (List.mem_append_right _ h)) (fun b h => hb b (List.mem_append_right _ h)), SV.den_congr (s := x) (fun e h => he e (List.mem_append_left _ h)) (fun b h => hb b (List.mem_append_left _ h))]
  | .callI x m l, he, hb => by
    simp only [Nd.pre]
    rw [svs_congr (l := l) (fun e h => he e (List.mem_append_right _ h)) (fun b h => hb b (List.mem_append_right _ h)), SV.den_congr (s := x) (fun e h => he e (List.mem_append_left _ h)) (fun b h => hb b (List.mem_append_left _ h))]
  | .guard g n, he, hb => by
    simp only [Nd.pre]
    rw [conds_congr (g := g) (fun e h => he e (by simp [ndE, h])) (fun e h => hb e (by simp [ndB, h])),
      Nd.pre_congr (n := n) (fun e h => he e (by simp [ndE, h])) (fun e h => hb e (by simp [ndB, h]))]
  | .eff op ty ps md y bl, he, hb => by
    simp only [Nd.pre]
    rw [parts_congr (l := ps) (fun e h => he e (List.mem_cons_of_mem _ (List.mem_append_left _ h))) (fun b h => hb b (List.mem_append_left _ (List.mem_append_right _ h))), tr_congr (bl := bl) (fun b h => hb b (List.mem_append_right _ h))]
    have hk : ∀ w, Known X env β y bl w ↔ Known X env' β' y bl w := fun w => Known.congr_iff (he _ (by simp [ndE])) (fun k hk => hb k (List.mem_append_left _ (List.mem_append_left _ hk))) (fun e h => he e (List.mem_cons_of_mem _ (List.mem_append_right _ h))) (fun b h => hb b (List.mem_append_right _ h))
    simp only [hk]
  | .callW f l md y bl, he, hb => by
    simp only [Nd.pre]
    rw [svs_congr (l := l) (fun e h => he e (List.mem_cons_of_mem _ (List.mem_append_left _ h))) (fun b h => hb b (List.mem_append_left _ (List.mem_append_right _ h))), tr_congr (bl := bl) (fun b h => hb b (List.mem_append_right _ h))]
    have hk : ∀ w, Known X env β y bl w ↔ Known X env' β' y bl w := fun w => Known.congr_iff (he _ (by simp [ndE])) (fun k hk => hb k (List.mem_append_left _ (List.mem_append_left _ hk))) (fun e h => he e (List.mem_cons_of_mem _ (List.mem_append_right _ h))) (fun b h => hb b (List.mem_append_right _ h))
    simp only [hk]
  | .callJ x m l md y bl, he, hb => by
    simp only [Nd.pre]
    rw [svs_congr (l := l) (fun e h => he e (List.mem_cons_of_mem _ (List.mem_append_left _ (by simp only [List.flatMap_cons, List.mem_append]; exact .inr h)))) (fun b h => hb b (List.mem_append_left _ (List.mem_append_right _ (by simp only [List.flatMap_cons, List.mem_append]; exact .inr h)))),
      SV.den_congr (s := x) (fun e h => he e (List.mem_cons_of_mem _ (List.mem_append_left _ (by simp only [List.flatMap_cons, List.mem_append]; exact .inl h)))) (fun b h => hb b (List.mem_append_left _ (List.mem_append_right _ (by simp only [List.flatMap_cons, List.mem_append]; exact .inl h)))), tr_congr (bl := bl) (fun b h => hb b (List.mem_append_right _ h))]
    have hk : ∀ w, Known X env β y bl w ↔ Known X env' β' y bl w := fun w => Known.congr_iff (he _ (by simp [ndE])) (fun k hk => hb k (List.mem_append_left _ (List.mem_append_left _ hk))) (fun e h => he e (List.mem_cons_of_mem _ (List.mem_append_right _ h))) (fun b h => hb b (List.mem_append_right _ h))
    simp only [hk]
  | .callV x l md y bl, he, hb => by
    simp only [Nd.pre]
    rw [svs_congr (l := l) (fun e h => he e (List.mem_cons_of_mem _ (List.mem_append_left _ (by simp only [List.flatMap_cons, List.mem_append]; exact .inr h)))) (fun b h => hb b (List.mem_append_left _ (List.mem_append_right _ (by simp only [List.flatMap_cons, List.mem_append]; exact .inr h)))),
      SV.den_congr (s := x) (fun e h => he e (List.mem_cons_of_mem _ (List.mem_append_left _ (by simp only [List.flatMap_cons, List.mem_append]; exact .inl h)))) (fun b h => hb b (List.mem_append_left _ (List.mem_append_right _ (by simp only [List.flatMap_cons, List.mem_append]; exact .inl h)))), tr_congr (bl := bl) (fun b h => hb b (List.mem_append_right _ h))]
    have hk : ∀ w, Known X env β y bl w ↔ Known X env' β' y bl w := fun w => Known.congr_iff (he _ (by simp [ndE])) (fun k hk => hb k (List.mem_append_left _ (List.mem_append_left _ hk))) (fun e h => he e (List.mem_cons_of_mem _ (List.mem_append_right _ h))) (fun b h => hb b (List.mem_append_right _ h))
    simp only [hk]
  | .bin .., he, hb | .un .., he, hb | .conv .., he, hb | .ext .., he, hb | .fad .., he, hb | .fld .., he, hb | .len .., he, hb | .asAgg .., he, hb | .ix .., he, hb | .loadU .., he, hb | .plain .., he, hb
  | .iad .., he, hb | .idx .., he, hb | .slc .., he, hb | .bld .., he, hb | .gen .., he, hb | .pick .., he, hb | .sel .., he, hb | .upd .., he, hb => by
    simp only [Nd.pre]; exact exists_congr fun v => Nd.den_congr v he hb
end congr
/-! ### memory -/
structure Mem (X : Ctx) (y : Sy) (blocks : List (Option Blk)) (gl : List (Nat × Nat)) (env : Env) (β : Nat → Nat) (w : World) : Prop where
  blk : ∀ (k : Nat) (b : Blk), blocks[k]? = some (some b) → Holds w (β k) b env β ∧ (b.cont.den env β).size = b.n ∧ b.cont.ok env
  inh : ∀ (k : Nat) (b : Blk), blocks[k]? = some (some b) → β k < w.heap.size
  own : ∀ (k : Nat) (b : Blk), blocks[k]? = some (some b) → b.own = true → X.mine (β k)
  apart : ∀ (j k : Nat) (bj bk : Blk), j ≠ k → blocks[j]? = some (some bj) → blocks[k]? = some (some bk) → bj.own = true → β j ≠ β k
  glob : ∀ (g k : Nat), (g, k) ∈ gl → β k = g
  past : y.live = true → ∀ b, b < (env y.s).2.heap.size → b ∉ y.ow.map β → w.heap[b]? = (env y.s).2.heap[b]?
  wksz : (env y.s).2.heap.size ≤ w.heap.size
  keep : ∀ b, ¬ X.mine b → w.heap[b]? = X.w0.heap[b]?
  sz0 : X.w0.heap.size ≤ w.heap.size
  os : w.os = X.w0.os
  tape : w.tape = X.w0.tape
  output : w.output = X.w0.output
structure Sat (X : Ctx) (σ : St) (env : Env) (β : Nat → Nat) (a : Act) (w : World) : Prop where
  mem : Mem X σ.sy σ.blocks σ.gl env β w
  defers : ∀ d ∈ a.defers, NoOp X.P d
  size : a.tmps.size = σ.slots.length
  slot : ∀ (t : Nat) (sl : Slot), σ.slots[t]? = some sl → okSV sl.s = true →
    (conds env β sl.g → a.tmps[t]? = some (sl.s.den env β)) ∧ (¬ conds env β sl.g → a.tmps[t]? = some undef)
/-- What a callee by a contract over worlds leaves as it was. -/
structure KeepsM (md : Nat → Prop) (w w' : World) : Prop where
  os : w'.os = w.os
  tape : w'.tape = w.tape
  output : w'.output = w.output
  size : w.heap.size ≤ w'.heap.size
  block : ∀ b, b < w.heap.size → ¬ md b → w'.heap[b]? = w.heap[b]?
structure Good (X : Ctx) (A : Ann) : Prop where
  mixed : X.P.follows .mixedOrders = true
  stable : ∀ w, (∀ b, ¬ X.mine b → w.heap[b]? = X.w0.heap[b]?) → X.w0.heap.size ≤ w.heap.size → X.G w
  fresh : ∀ b, X.w0.heap.size ≤ b → X.mine b
  enters : ∀ f ∈ A.calls, ∀ args w, (callFunc f args).run X.P w = .ok (.enter f args) w
  calls : ∀ f args w, X.S.pre f args → X.G w → Calls X.P f args.toArray w fun e w' => ∃ v, e = .returned v ∧ X.S.post f args v ∧ Below w.heap.size w w'
  entersW : ∀ p ∈ A.callsW, ∀ args w, (callFunc p.1 args).run X.P w = .ok (.enter p.1 args) w
  callsW : ∀ f args w, X.S.preW f args w → X.G w → Calls X.P f args.toArray w fun e w' => ∃ v, e = .returned v ∧ X.S.postW f args w v w' ∧ KeepsM (X.S.modW f args w) w w'
theorem holds_cell {w : World} {k : Nat} {b : Blk} {env : Env} {β : Nat → Nat} (h : Holds w k b env β) {i : Nat} {v : Value} (hi : (b.cont.den env β)[i]? = some v) : w.cell? ⟨k, i, none⟩ = some v := by
  unfold Holds at h
  split at h
  · simp [World.cell?, h, hi]
  · exact h i v hi
theorem holds_of_block {w w' : World} {k : Nat} {b : Blk} {env : Env} {β : Nat → Nat} (h : Holds w k b env β) (he : w'.heap[k]? = w.heap[k]?) : Holds w' k b env β := by
  unfold Holds at *
  split
  · rename_i ho; simp only [ho, if_true] at h; rw [he]; exact h
  · rename_i ho
    simp only [ho] at h
    intro i v hi
    rw [World.cell?_of_block (w := w) he]
    exact h i v hi
end Go.Vc

/-
  The engine is sound, part 2: one operation.
-/
namespace Go.Vc
open Go Go.RowKit
def PreChain (X : Ctx) (β : Nat → Nat) : List Nd → Env → Nat → Prop
  | [], _, _ => True
  | n :: ns, env, ne => n.pre X env β ∧ ∀ v, n.den X env β v → PreChain X β ns (upd env ne v) (ne + 1)
def Chain (X : Ctx) (β : Nat → Nat) : List Nd → Env → Nat → List Val → Prop
  | [], _, _, vs => vs = []
  | _ :: _, _, _, [] => False
  | n :: ns, env, ne, v :: vs => n.den X env β v ∧ Chain X β ns (upd env ne v) (ne + 1) vs
theorem Chain.length {X : Ctx} {β : Nat → Nat} : ∀ {ns : List Nd} {env : Env} {ne : Nat} {vs : List Val}, Chain X β ns env ne vs → vs.length = ns.length
  | [], _, _, vs, h => by simp only [Chain] at h; subst h; rfl
  | _ :: _, _, _, [], h => h.elim
  | _ :: ns, _, _, _ :: vs, h => by simp only [List.length_cons]; rw [Chain.length h.2]
/-- A node that is no call, no effect, under no conditions. -/
def Nd.pl : Nd → Bool
  | .call .. | .callI .. | .callJ .. | .dfr .. | .guard .. | .eff .. | .callW .. | .callV .. => false
  | _ => true
theorem Nd.pre_pl {X : Ctx} {env : Env} {β : Nat → Nat} {n : Nd} (h : n.pl = true) : n.pre X env β ↔ ∃ v, n.den X env β v := by
  cases n <;> first | exact Iff.rfl | cases h
/-- One block is overwritten, all else stays. -/
structure SetBlk (w w' : World) (b : Nat) (o : Obj) : Prop where
  here : w'.heap[b]? = some o
  other : ∀ j, j ≠ b → w'.heap[j]? = w.heap[j]?
  size : w'.heap.size = w.heap.size
  os : w'.os = w.os
  tape : w'.tape = w.tape
  output : w'.output = w.output
def After (X : Ctx) (σ : St) (env : Env) (β : Nat → Nat) (a : Act) (w : World) (dst : Option Nat) (r : Res) (K : Act → World → Prop) : Prop :=
  match r.fin with
  | .val s => ∀ vs w', Chain X β r.nds env σ.ne vs → Below w.heap.size w w' → K (a.put dst (s.den (updl env σ.ne vs) β)) w'
  | .newb b => ∀ vs, Chain X β r.nds env σ.ne vs → (b.cont.den (updl env σ.ne vs) β).size = b.n → b.cont.ok (updl env σ.ne vs) → b.own = true →
      K (a.put dst (.pointer (some ⟨w.heap.size, 0, none⟩))) (w.alloc (.cells (b.cont.den (updl env σ.ne vs) β) b.ty))
  | .newsl b len => ∀ vs, Chain X β r.nds env σ.ne vs → (b.cont.den (updl env σ.ne vs) β).size = b.n → b.cont.ok (updl env σ.ne vs) → b.own = true →
      K (a.put dst (.slice (some ⟨w.heap.size, 0, none⟩) len len)) (w.alloc (.cells (b.cont.den (updl env σ.ne vs) β) b.ty))
  | .setb k b => ∀ vs w', Chain X β r.nds env σ.ne vs → (b.cont.den (updl env σ.ne vs) β).size = b.n → b.cont.ok (updl env σ.ne vs) →
      (∃ b0, σ.blocks[k]? = some (some b0) ∧ b0.own = true ∧ b.own = true ∧ b.ty = b0.ty ∧ b.n = b0.n) →
      SetBlk w w' (β k) (.cells (b.cont.den (updl env σ.ne vs) β) b.ty (0, 0)) → K (a.put dst undef) w'
  | .eff s md => ∀ vs w', Chain X β r.nds env σ.ne vs → 0 < r.nds.length → (updl env σ.ne vs (σ.ne + r.nds.length - 1)).2 = w' → Keeps X md ((knownBl σ.blocks 0).map fun kb => β kb.1) w w' →
      K (a.put dst (s.den (updl env σ.ne vs) β)) w'
theorem wp_of_value {P : Program} {o : Oper} {a : Act} {w w' : World} {K : Act → World → Prop} {Q : Exit → Act → World → Prop} {v : Value}
    (h : (execOp a.eval o).run P w = .ok (.value v) w') (hK : K (a.put o.dst v) w') : o.wp P a w K Q := by
  unfold Oper.wp; rw [h]; exact hK
theorem wp_of_skip {P : Program} {o : Oper} {a : Act} {w w' : World} {K : Act → World → Prop} {Q : Exit → Act → World → Prop}
    (h : (execOp a.eval o).run P w = .ok .skip w') (hK : K (a.put o.dst undef) w') : o.wp P a w K Q := by
  unfold Oper.wp; rw [h]; exact hK
section
variable {X : Ctx} {σ : St} {env : Env} {β : Nat → Nat} {a : Act} {w : World} {g : List (At × Bool)}
/-- What memory is, is known. -/
theorem Mem.known {y : Sy} {blocks : List (Option Blk)} {gl : List (Nat × Nat)} (h : Mem X y blocks gl env β w) (hl : y.live = true) {bl : List (Nat × Blk)} (hbl : ∀ kb ∈ bl, blocks[kb.1]? = some (some kb.2)) : Known X env β y bl w where
  past := h.past hl
  size := h.wksz
  keep := h.keep
  sz0 := h.sz0
  os := h.os
  tape := h.tape
  output := h.output
  blk := fun kb hkb => by
    obtain ⟨q, hq, rfl⟩ := List.mem_map.1 hkb
    exact ⟨(h.blk _ _ (hbl q hq)).1, h.inh _ _ (hbl q hq), h.own _ _ (hbl q hq)⟩
theorem knownBl_get : ∀ (l : List (Option Blk)) (k0 : Nat) (kb : Nat × Blk), kb ∈ knownBl l k0 → k0 ≤ kb.1 ∧ l[kb.1 - k0]? = some (some kb.2)
  | [], k0, kb, h => by simp [knownBl] at h
  | none :: r, k0, kb, h => by
    simp only [knownBl] at h
    obtain ⟨h1, h2⟩ := knownBl_get r (k0 + 1) kb h
    refine ⟨by omega, ?_⟩
    rw [show kb.1 - k0 = (kb.1 - (k0 + 1)) + 1 from by omega]
    simpa using h2
  | some b :: r, k0, kb, h => by
    simp only [knownBl, List.mem_cons] at h
    rcases h with h | h
    · subst h; simp
    · obtain ⟨h1, h2⟩ := knownBl_get r (k0 + 1) kb h
      refine ⟨by omega, ?_⟩
      rw [show kb.1 - k0 = (kb.1 - (k0 + 1)) + 1 from by omega]
      simpa using h2
theorem knownBl_mem : ∀ (l : List (Option Blk)) (k0 k : Nat) (b : Blk), l[k]? = some (some b) → (k0 + k, b) ∈ knownBl l k0
  | [], k0, k, b, h => by simp at h
  | x :: r, k0, 0, b, h => by
    simp at h
    subst h
    simp [knownBl]
  | x :: r, k0, k + 1, b, h => by
    have := knownBl_mem r (k0 + 1) k b (by simpa using h)
    rw [show k0 + 1 + k = k0 + (k + 1) from by omega] at this
    cases x with
    | none => simpa [knownBl] using this
    | some x => simp only [knownBl, List.mem_cons]; exact .inr this
theorem wf_mk {slots : List Slot} {blocks : List (Option Blk)} {gl : List (Nat × Nat)} {ne : Nat} {y : Sy} (h1 : ∀ s ∈ slots, okSlot ne blocks.length s = true) (h2 : ∀ b ∈ blocks, okB ne blocks.length b = true) (h3 : ∀ p ∈ gl, p.2 < blocks.length)
    (h4 : y.s < ne) (h5 : ∀ k ∈ y.ow, k < blocks.length) : wf ⟨slots, blocks, gl, ne, y⟩ = true := by
  simp only [wf, Bool.and_eq_true, List.all_eq_true, decide_eq_true_eq]
  exact ⟨⟨⟨⟨h1, h2⟩, h3⟩, h4⟩, h5⟩
theorem wf_parts {σ : St} (h : wf σ = true) : (∀ s ∈ σ.slots, okSlot σ.ne σ.blocks.length s = true) ∧ (∀ b ∈ σ.blocks, okB σ.ne σ.blocks.length b = true) ∧ (∀ p ∈ σ.gl, p.2 < σ.blocks.length) ∧ σ.sy.s < σ.ne ∧ ∀ k ∈ σ.sy.ow, k < σ.blocks.length := by
  simp only [wf, Bool.and_eq_true, List.all_eq_true, decide_eq_true_eq] at h
  exact ⟨h.1.1.1.1, h.1.1.1.2, h.1.1.2, h.1.2, h.2⟩
theorem normC_den (v : Value) : (normC v).den env β = v := by
  cases v <;> simp [normC, SV.den, At.den]
  rename_i cs
  apply Array.ext'
  simp [Function.comp_def, At.den]
theorem gIn_conds {g' : List (At × Bool)} (h : gIn g g' = true) (hg : conds env β g) : conds env β g' := by
  rw [conds_iff] at hg ⊢
  intro x hx
  have h1 := List.all_eq_true.1 h x hx
  obtain ⟨y, hy, h2⟩ := List.any_eq_true.1 h1
  simp only [Bool.and_eq_true, beq_iff_eq] at h2
  obtain ⟨h3, h4⟩ := h2
  have h5 := hg y hy
  obtain ⟨x1, x2⟩ := x
  obtain ⟨y1, y2⟩ := y
  simp only at h3 h4 h5 ⊢
  subst h4
  cases x1 <;> cases y1 <;> simp [condSame] at h3
  subst h3
  exact h5
theorem evalO_sound (hs : Sat X σ env β a w) (hg : conds env β g) {x : Operand} {s : SV} (h : evalO σ g x = some s) : a.eval x = s.den env β := by
  cases x with
  | tmp t =>
    simp only [evalO] at h
    split at h
    · rename_i sl hsl
      split at h
      · rename_i hc
        simp only [Bool.and_eq_true] at hc
        cases h
        have := (hs.slot t sl hsl hc.1).1 (gIn_conds hc.2 hg)
        simp [Act.eval, Array.getD]
        have hlt : t < a.tmps.size := by
          rcases Nat.lt_or_ge t a.tmps.size with h' | h'
          · exact h'
          · rw [Array.getElem?_eq_none h'] at this; cases this
        rw [Array.getElem?_eq_getElem hlt] at this
        simp [hlt] at this ⊢
        exact this
      · cases h
    · cases h
  | const v => simp only [evalO, Option.some.injEq] at h; subst h; exact (normC_den v).symm
  | global n =>
    simp only [evalO] at h
    split at h
    · rename_i q b hf
      simp only [Option.some.injEq] at h
      subst h
      have h1 := List.find?_some hf
      have h2 := List.mem_of_find?_eq_some hf
      simp only [beq_iff_eq] at h1
      subst h1
      simp only [Act.eval, SV.den, At.den]
      rw [hs.mem.glob _ _ h2]
    · simp only [Option.some.injEq] at h
      subst h
      rfl
  | func f => simp only [evalO, Option.some.injEq] at h; subst h; rfl
theorem run_agg {t : TypeId} {ag : Bool} (h : agg? X.P t = some ag) (w : World) : (isAgg t).run X.P w = .ok ag w := by
  unfold agg? at h
  unfold isAgg
  cases hd : X.P.underlying t with
  | none => simp [hd] at h
  | some d =>
    rw [Sem.run_bind, run_underlying hd w]
    rw [hd] at h
    cases d <;> simp_all
theorem run_sz {t : TypeId} {n : Nat} (h : sz X.P t = some n) (w : World) : (sizeOf t).run X.P w = .ok n w := by
  unfold sz at h
  cases hi : X.P.info? t with
  | none => simp [hi] at h
  | some i => simp [hi] at h; subst h; simp [sizeOf, typeInfo, hi]
theorem run_zero {t : TypeId} {z : Value} (h : (X.P.info? t).bind (·.zero) = some z) (w : World) : (zeroValue t).run X.P w = .ok z w := by
  cases hi : X.P.info? t with
  | none => simp [hi] at h
  | some i => simp [hi] at h; simp [zeroValue, typeInfo, hi, h]
/-- One node, and what it yields is the operation's value. -/
theorem one_sound {o : Oper} {n : Nd} {s : SV} (hpl : n.pl = true) (hp : PreChain X β [n] env σ.ne)
    (hr : ∀ v, n.den X env β v → (execOp a.eval o).run X.P w = .ok (.value (s.den (upd env σ.ne v) β)) w) {K : Act → World → Prop} {Q : Exit → Act → World → Prop}
    (hK : After X σ env β a w o.dst ⟨[n], .val s⟩ K) : o.wp X.P a w K Q := by
  have h1 : n.pre X env β := hp.1
  have h2 : ∃ v, n.den X env β v := (Nd.pre_pl hpl).1 h1
  obtain ⟨v, hv⟩ := h2
  exact wp_of_value (hr v hv) (hK [v] w ⟨hv, rfl⟩ (Below.refl _ _))
/-- No node. -/
theorem val_sound {o : Oper} {s : SV} (hr : (execOp a.eval o).run X.P w = .ok (.value (s.den env β)) w) {K : Act → World → Prop} {Q : Exit → Act → World → Prop}
    (hK : After X σ env β a w o.dst ⟨[], .val s⟩ K) : o.wp X.P a w K Q :=
  wp_of_value hr (hK [] w rfl (Below.refl _ _))
theorem add_none (b o n : Nat) : (⟨b, o, none⟩ : Addr).add n = ⟨b, o + n, none⟩ := by
  unfold Addr.add; split <;> simp_all
/-! loads -/
theorem load_agg {t : TypeId} {b o : Nat} {cs : List Value} (ht : agg? X.P t = some true) (hn : sz X.P t = some cs.length)
    (h : ∀ j v, cs[j]? = some v → w.cell? ⟨b, o + j, none⟩ = some v) : (Instr.loadAt t (.pointer (some ⟨b, o, none⟩))).run X.P w = .ok (.agg cs.toArray) w := by
  have hl := run_loadCells_list (P := X.P) w ⟨b, o, none⟩ cs (fun j v hv => by rw [add_none]; exact h j v hv)
  simp [Instr.loadAt, Instr.sureAddr, loadVar, Sem.run_bind, run_agg ht, run_sz hn, hl]
theorem load_one {t : TypeId} {b o : Nat} {v : Value} (ht : agg? X.P t = some false) (h : w.cell? ⟨b, o, none⟩ = some v) :
    (Instr.loadAt t (.pointer (some ⟨b, o, none⟩))).run X.P w = .ok v w := by
  simp [Instr.loadAt, Instr.sureAddr, loadVar, Sem.run_bind, run_agg ht, h]
theorem blk?_some {k : Nat} {b : Blk} (h : blk? σ k = some b) : σ.blocks[k]? = some (some b) := by
  unfold blk? at h
  cases hb : σ.blocks[k]? with
  | none => simp [hb] at h
  | some x => simp [hb] at h; subst h; rfl
theorem load_sel {t : TypeId} {n : Nat} {ag : Bool} {b : Nat} {arr : Array Value} {pos : Nat} {v : Value} (hag : agg? X.P t = some ag) (hn : sz X.P t = some n)
    (hc : ∀ (i : Nat) (v : Value), arr[i]? = some v → w.cell? ⟨b, i, none⟩ = some v) (h1 : pos + n ≤ arr.size) (h01 : ag = true ∨ n = 1)
    (hv : v = if ag then .agg (arr.extract pos (pos + n)) else arr.getD pos undef) : (Instr.loadAt t (.pointer (some ⟨b, pos, none⟩))).run X.P w = .ok v w := by
  subst hv
  cases ag with
  | true =>
    have hl : (arr.extract pos (pos + n)).toList.length = n := by simp; omega
    have := load_agg (X := X) (w := w) (t := t) (b := b) (o := pos) (cs := (arr.extract pos (pos + n)).toList) hag (by rw [hl]; exact hn) (fun j v hv => by
      refine hc _ _ ?_
      rw [Array.getElem?_toList, Array.getElem?_extract] at hv
      split at hv
      · exact hv
      · cases hv)
    simpa only [Array.toArray_toList, if_true] using this
  | false =>
    have hlt : pos < arr.size := by
      rcases h01 with h | h
      · cases h
      · omega
    simp only [Bool.false_eq_true, if_false]
    refine load_one hag (hc _ _ ?_)
    simp [hlt]
theorem stepLoad_sound (hs : Sat X σ env β a w) {o : Oper} {t : TypeId} {xo : Operand} (ho : o.op = .load t xo) {x : SV} (hx : a.eval xo = x.den env β) {r : Res} (h : stepLoad X.P σ t x = some r)
    (hp : PreChain X β r.nds env σ.ne) {K : Act → World → Prop} {Q : Exit → Act → World → Prop} (hK : After X σ env β a w o.dst r K) : o.wp X.P a w K Q := by
  have hrun : ∀ v, (Instr.loadAt t (x.den env β)).run X.P w = .ok v w → (execOp a.eval o).run X.P w = .ok (.value v) w := fun v hv => by
    simp [execOp, ho, hx, hv]
  unfold stepLoad at h
  cases hn : sz X.P t with
  | none => simp [hn] at h
  | some n =>
  cases hag : agg? X.P t with
  | none => simp [hn, hag] at h
  | some ag =>
  simp only [hn, hag, Option.bind_eq_bind, Option.bind_some] at h
  split at h
  · rename_i b o'
    cases hb : blk? σ b with
    | none => simp [hb] at h
    | some bl =>
    simp only [hb, Option.bind_some] at h
    have hblk := hs.mem.blk b bl (blk?_some hb)
    split at h
    · rename_i l hl
      split at h
      · rename_i hle
        split at h
        · rename_i hag1
          cases h
          have hd : bl.cont.den env β = (l.map (At.den env β)).toArray := by rw [hl]; rfl
          refine val_sound (hrun _ ?_) hK
          simp only [SV.den, At.den]
          refine load_agg (by rw [hag, hag1]) (by rw [hn]; simp; omega) (fun j v hv => holds_cell hblk.1 ?_)
          rw [hd]
          simp only [List.map_take, List.map_drop] at hv
          rw [List.getElem?_take] at hv
          split at hv
          · rw [List.getElem?_drop] at hv; simpa using hv
          · cases hv
        · rename_i hag0
          split at h
          · rename_i hn1
            split at h
            · rename_i at_ hat
              split at h
              · cases h
                have hd : bl.cont.den env β = (l.map (At.den env β)).toArray := by rw [hl]; rfl
                refine val_sound (hrun _ ?_) hK
                show Sem.run X.P (Instr.loadAt t (.pointer (some ⟨β b, o', none⟩))) w = .ok (at_.den env β) w
                refine load_one (by rw [hag]; simp at hag0; rw [hag0]) (holds_cell hblk.1 ?_)
                rw [hd]; simp [hat]
              · cases h
            · cases h
          · cases h
      · cases h
    · rename_i i hi
      split at h
      · rename_i hc
        simp only [Bool.and_eq_true, beq_iff_eq] at hc
        obtain ⟨⟨hc1, hc2⟩, hc3⟩ := hc
        cases h
        subst hc2
        obtain ⟨hb1, hb2, hb3⟩ := hblk
        have hd : bl.cont.den env β = aggArr (env i).1 := by rw [hi]; rfl
        rw [hi] at hb3
        simp only [Cont.ok] at hb3
        refine val_sound (hrun _ ?_) hK
        simp only [SV.den, At.den]
        rw [hb3]
        have := load_agg (X := X) (w := w) (t := t) (b := β b) (o := 0) (cs := (aggArr (env i).1).toList) (by rw [hag, hc1]) (by rw [hn, hc3, ← hb2, hd]; simp) (fun j v hv => holds_cell hb1 (by
          rw [hd, Nat.zero_add]; simpa using hv))
        simpa only [Array.toArray_toList] using this
      · rename_i hc
        split at h
        · rename_i hc2
          cases h
          refine one_sound rfl hp (fun v hv => hrun _ ?_) hK
          simp only [SV.den, At.den, upd_same]
          obtain ⟨hv1, hv2⟩ := hv
          simp only [Pos.den] at hv1 hv2
          refine load_sel hag hn (fun i v hi => holds_cell hblk.1 hi) hv1 (by simpa using hc2) hv2
        · cases h
  · rename_i b base stride i
    cases hb : blk? σ b with
    | none => simp [hb] at h
    | some bl =>
    simp only [hb, Option.bind_some] at h
    have hblk := hs.mem.blk b bl (blk?_some hb)
    split at h
    · rename_i hc2
      cases h
      refine one_sound rfl hp (fun v hv => hrun _ ?_) hK
      simp only [SV.den, At.den, upd_same]
      obtain ⟨hv1, hv2⟩ := hv
      exact load_sel hag hn (fun i v hi => holds_cell hblk.1 hi) hv1 (by simpa using hc2) hv2
    · cases h
  · cases h
  · cases h
  · cases h
  · split at h
    · rename_i hlive
      cases h
      refine one_sound rfl hp (fun v hv => hrun _ ?_) hK
      simp only [SV.den, At.den, upd_same]
      exact hv w (hs.mem.known hlive (fun kb h => by cases h))
    · cases h
/-! stores -/
theorem store_run {t : TypeId} {b o n : Nat} {cells : Array Value} {ty : TypeId} {v : Value} (hn : sz X.P t = some n) (hb : w.heap[b]? = some (.cells cells ty (0, 0)))
    (hv : v.cells.size = n) (ho : o + n ≤ cells.size) (h1 : v.cells.all (·.oneCell') = true) :
    (Instr.storeAt t (.pointer (some ⟨b, o, none⟩)) v).run X.P w = .ok () (w.setRow b (splice cells o v.cells.toList)) := by
  have := run_storeCells_at (P := X.P) b o ty v.cells.toList 0 cells w hb (by simp; omega) (fun u hu => by
    rw [Array.all_eq_true'] at h1; exact h1 u (by simpa using hu))
  simp only [Nat.add_zero] at this
  simp [Instr.storeAt, Instr.sureAddr, storeVar, run_sz hn, hv, this, splice]
theorem setBlk_setRow {b : Nat} {cells new : Array Value} {ty : TypeId} (hb : w.heap[b]? = some (.cells cells ty (0, 0))) : SetBlk w (w.setRow b new) b (.cells new ty (0, 0)) where
  here := setRow_heap w b cells new ty (0, 0) hb
  other := fun j hj => setRow_other w b j new hj
  size := by simp [World.setRow]
  os := rfl
  tape := rfl
  output := rfl
theorem splice_size {arr : Array Value} {pos : Nat} {vs : List Value} (h : pos + vs.length ≤ arr.size) : (splice arr pos vs).size = arr.size := by
  simp [splice]; omega
/-- The atoms that plain nodes leave denote what the old ones denoted, and fit a cell. -/
theorem plainAts_sound (X : Ctx) : ∀ (l : List At) (ne : Nat) (env : Env) (vs : List Val), (∀ a ∈ l, ∀ e ∈ atE a, e < ne) → l.all plainC = true →
    Chain X β (plainAts ne l).1 env ne vs →
    (plainAts ne l).2.map (At.den (updl env ne vs) β) = l.map (At.den env β) ∧ (∀ u ∈ l.map (At.den env β), u.oneCell' = true)
  | [], ne, env, vs, _, _, h => by simp [plainAts]
  | a :: l, ne, env, vs, hE, hc, h => by
    simp only [List.all_cons, Bool.and_eq_true] at hc
    cases a with
    | v i =>
      simp only [plainAts] at h ⊢
      cases vs with
      | nil => exact h.elim
      | cons u us =>
        obtain ⟨h1, h2⟩ := h
        simp only [Nd.den] at h1
        have hi : i < ne := hE (.v i) (by simp) i (by simp [atE])
        have ih := plainAts_sound X l (ne + 1) (upd env ne u) us (fun a ha e he => by have := hE a (by simp [ha]) e he; omega) hc.2 h2
        have hc2 : l.map (At.den (upd env ne u) β) = l.map (At.den env β) := ats_congr (fun e he => by
          obtain ⟨a, ha, he⟩ := List.mem_flatMap.1 he
          have := hE a (by simp [ha]) e he
          exact upd_ne _ _ (by omega)) (fun _ _ => rfl)
        rw [hc2] at ih
        refine ⟨?_, fun x hx => ?_⟩
        · simp only [updl, List.map_cons, ih.1]
          congr 1
          show (updl (upd env ne u) (ne + 1) us ne).1 = _
          rw [updl_lt _ _ _ _ (by omega), upd_same, h1.1]
        · simp only [List.map_cons, List.mem_cons] at hx
          rcases hx with rfl | hx
          · exact h1.2
          · exact ih.2 x hx
    | junk => simp [plainC] at hc
    | c u =>
      simp only [plainAts] at h ⊢
      have ih := plainAts_sound X l ne env vs (fun a ha => hE a (by simp [ha])) hc.2 h
      refine ⟨by simp only [List.map_cons, ih.1]; rfl, fun x hx => ?_⟩
      simp only [List.map_cons, List.mem_cons] at hx
      rcases hx with rfl | hx
      · exact hc.1
      · exact ih.2 x hx
    | p b o =>
      simp only [plainAts] at h ⊢
      have ih := plainAts_sound X l ne env vs (fun a ha => hE a (by simp [ha])) hc.2 h
      refine ⟨by simp only [List.map_cons, ih.1]; rfl, fun x hx => ?_⟩
      simp only [List.map_cons, List.mem_cons] at hx
      rcases hx with rfl | hx
      · rfl
      · exact ih.2 x hx
    | pd b o s i =>
      simp only [plainAts] at h ⊢
      have ih := plainAts_sound X l ne env vs (fun a ha => hE a (by simp [ha])) hc.2 h
      refine ⟨?_, fun x hx => ?_⟩
      · simp only [List.map_cons, ih.1]
        congr 1
        exact At.den_congr (fun e he => updl_lt _ _ _ _ (hE _ (by simp) e he)) (fun _ _ => rfl)
      · simp only [List.map_cons, List.mem_cons] at hx
        rcases hx with rfl | hx
        · rfl
        · exact ih.2 x hx
    | sl b o n c =>
      simp only [plainAts] at h ⊢
      have ih := plainAts_sound X l ne env vs (fun a ha => hE a (by simp [ha])) hc.2 h
      refine ⟨by simp only [List.map_cons, ih.1]; rfl, fun x hx => ?_⟩
      simp only [List.map_cons, List.mem_cons] at hx
      rcases hx with rfl | hx
      · rfl
      · exact ih.2 x hx
/-- The variables behind an aggregate's node denote its cells. -/
theorem sels_sound (X : Ctx) (e : Nat) (arr : Array Value) : ∀ (n k ne : Nat) (env : Env) (vs : List Val), e < ne → aggArr (env e).1 = arr →
    Chain X β (selsFrom e k n) env ne vs → k + n ≤ arr.size ∨ n = 0 →
    (varsFrom ne n).map (At.den (updl env ne vs) β) = (arr.toList.drop k).take n
  | 0, k, ne, env, vs, _, _, h, _ => by simp [varsFrom]
  | n + 1, k, ne, env, vs, he, ha, h, hk => by
    simp only [selsFrom] at h
    cases vs with
    | nil => exact h.elim
    | cons u us =>
      obtain ⟨h1, h2⟩ := h
      simp only [Nd.den, Cont.den, Pos.den, Bool.false_eq_true, if_false, ha] at h1
      have hkl : k + (n + 1) ≤ arr.size := by rcases hk with h | h <;> omega
      have ih := sels_sound X e arr n (k + 1) (ne + 1) (upd env ne u) us (by omega) (by rw [upd_ne _ _ (by omega)]; exact ha) h2 (.inl (by omega))
      simp only [varsFrom, List.map_cons, updl, ih]
      rw [show At.den (updl (upd env ne u) (ne + 1) us) β (.v ne) = u.1 from by
        show (updl (upd env ne u) (ne + 1) us ne).1 = u.1
        rw [updl_lt _ _ _ _ (by omega), upd_same]]
      have hk2 : k < arr.toList.length := by simp; omega
      rw [List.drop_eq_getElem_cons hk2, List.take_succ_cons]
      congr 1
      rw [h1.2]
      simp at hk2
      simp [hk2]
/-- Some values that a chain of nodes may take. -/
theorem chain_exists : ∀ (ns : List Nd) (env : Env) (ne : Nat), (∀ n ∈ ns, n.pl = true) → PreChain X β ns env ne → ∃ vs, Chain X β ns env ne vs
  | [], _, _, _, _ => ⟨[], rfl⟩
  | n :: ns, env, ne, hc, h => by
    have h2 : ∃ v, n.den X env β v := (Nd.pre_pl (hc n (by simp))).1 h.1
    obtain ⟨v, hv⟩ := h2
    obtain ⟨vs, hvs⟩ := chain_exists ns (upd env ne v) (ne + 1) (fun n hn => hc n (by simp [hn])) (h.2 v hv)
    exact ⟨v :: vs, hv, hvs⟩
end
end Go.Vc

/-
  The engine is sound, part 3: stores, new blocks, addresses, arithmetic.
-/
namespace Go.Vc
open Go Go.RowKit
section
variable {X : Ctx} {σ : St} {env : Env} {β : Nat → Nat} {a : Act} {w : World} {g : List (At × Bool)}
theorem okE_lt {ne nb : Nat} {s : SV} (h : okE ne nb s = true) : (∀ e ∈ svE s, e < ne) ∧ ∀ b ∈ svB s, b < nb := by
  simp only [okE, Bool.and_eq_true, List.all_eq_true, decide_eq_true_eq] at h
  exact h
theorem cellsOf_den {ag : Bool} {s : SV} {l : List At} (h : cellsOf ag s = some l) (hp : ag = true ∨ l.all plainC = true ∧ ∀ u ∈ l.map (At.den env β), u.oneCell' = true) : (s.den env β).cells.toList = l.map (At.den env β) := by
  cases s with
  | x at_ =>
    cases ag with
    | true => simp [cellsOf] at h
    | false =>
      simp only [cellsOf, Bool.false_eq_true, if_false, Option.some.injEq] at h
      subst h
      rcases hp with hp | hp
      · cases hp
      · have := hp.2 (at_.den env β) (by simp)
        simp only [SV.den, List.map_cons, List.map_nil]
        cases hd : at_.den env β <;> simp [Value.cells] 
        rw [hd] at this; simp [Value.oneCell'] at this
  | l as =>
    cases ag with
    | true => simp only [cellsOf, if_true, Option.some.injEq] at h; subst h; simp [SV.den, Value.cells]
    | false => simp [cellsOf] at h
  | t ss => simp [cellsOf] at h
/-- What a store asks of the operation. -/
theorem store_exec {o : Oper} {t : TypeId} {xo yo : Operand} (ho : o.op = .store t xo yo) {x y : Value} (hx : a.eval xo = x) (hy : a.eval yo = y) {w' : World}
    (h : (Instr.storeAt t x y).run X.P w = .ok () w') : (execOp a.eval o).run X.P w = .ok .skip w' := by
  simp [execOp, ho, hx, hy, h]
theorem splA_den {l as : List At} {o : Nat} : ((splA l o as).map (At.den env β)).toArray = splice (l.map (At.den env β)).toArray o (as.map (At.den env β)) := by
  apply Array.ext'
  simp [splA, splice, List.map_take, List.map_drop]
theorem stepStore_sound (hs : Sat X σ env β a w) {o : Oper} {t : TypeId} {xo yo : Operand} (ho : o.op = .store t xo yo) {x y : SV} (hx : a.eval xo = x.den env β) (hy : a.eval yo = y.den env β)
    (hwe : ∀ e ∈ svE y, e < σ.ne) (hwf : wf σ = true) {r : Res} (h : stepStore X.P σ t x y = some r)
    (hp : PreChain X β r.nds env σ.ne) {K : Act → World → Prop} {Q : Exit → Act → World → Prop} (hK : After X σ env β a w o.dst r K) : o.wp X.P a w K Q := by
  unfold stepStore at h
  cases hn : sz X.P t with
  | none => simp [hn] at h
  | some n =>
  cases hag : agg? X.P t with
  | none => simp [hn, hag] at h
  | some ag =>
  simp only [hn, hag, Option.bind_eq_bind, Option.bind_some] at h
  have hblkE : ∀ (k : Nat) (b : Blk), blk? σ k = some b → ∀ e ∈ contE b.cont, e < σ.ne := fun k b hb e he => by
    have hb' := blk?_some hb
    have := (wf_parts hwf).2.1 (some b) (List.mem_of_getElem? hb')
    simp only [okB, okC, Bool.and_eq_true, List.all_eq_true, decide_eq_true_eq] at this
    exact this.1 e he
  split at h
  · rename_i b o'
    cases hb : blk? σ b with
    | none => simp [hb] at h
    | some bl =>
    simp only [hb, Option.bind_some] at h
    obtain ⟨hb1, hb2, hb3⟩ := hs.mem.blk b bl (blk?_some hb)
    split at h
    · cases h
    · rename_i hown
      have hown' : bl.own = true := by simpa using hown
      have hheap : w.heap[β b]? = some (.cells (bl.cont.den env β) bl.ty (0, 0)) := by simpa [Holds, hown'] using hb1
      have hex : ∀ (b' : Blk), b'.own = bl.own → b'.ty = bl.ty → b'.n = bl.n → ∃ b0, σ.blocks[b]? = some (some b0) ∧ b0.own = true ∧ b'.own = true ∧ b'.ty = b0.ty ∧ b'.n = b0.n :=
        fun b' h1 h2 h3 => ⟨bl, blk?_some hb, hown', by rw [h1, hown'], h2, h3⟩
      -- an 'upd' node
      have hupd : ∀ (ps : Pos), a.eval xo = .pointer (some ⟨β b, ps.den env, none⟩) → r = ⟨[.upd bl.cont ps n y], .setb b { bl with cont := .wh σ.ne }⟩ → o.wp X.P a w K Q := by
        intro ps hxp hr
        subst hr
        obtain ⟨v, hv⟩ : ∃ v, (Nd.upd bl.cont ps n y).den X env β v := hp.1
        obtain ⟨hv1, hv2, hv3, hv4⟩ := hv
        have hrun := store_run (X := X) (w := w) (o := ps.den env) hn hheap hv2 hv1 hv3
        have hsp : (splice (bl.cont.den env β) (ps.den env) (y.den env β).cells.toList).size = bl.n := by rw [splice_size (by rw [Array.length_toList, hv2]; exact hv1), hb2]
        have hw : updl env σ.ne [v] σ.ne = v := upd_same env σ.ne v
        refine wp_of_skip (store_exec ho hxp hy hrun) (hK [v] _ ⟨⟨hv1, hv2, hv3, hv4⟩, rfl⟩ ?_ ?_ (hex _ rfl rfl rfl) ?_)
        · show (aggArr (updl env σ.ne [v] σ.ne).1).size = bl.n
          rw [hw, hv4]; exact hsp
        · show (updl env σ.ne [v] σ.ne).1 = .agg (aggArr (updl env σ.ne [v] σ.ne).1)
          rw [hw, hv4]; rfl
        · show SetBlk w _ (β b) (.cells (aggArr (updl env σ.ne [v] σ.ne).1) bl.ty (0, 0))
          rw [hw, hv4]
          exact setBlk_setRow hheap
      -- a whole block by an 'asAgg' node
      have hwhole : n = bl.n → a.eval xo = .pointer (some ⟨β b, 0, none⟩) → r = ⟨[.asAgg n y], .setb b { bl with cont := .wh σ.ne }⟩ → o.wp X.P a w K Q := by
        intro hnb hxp hr
        subst hr
        obtain ⟨v, hv⟩ : ∃ v, (Nd.asAgg n y).den X env β v := hp.1
        obtain ⟨hv1, arr, hv2, hv3, hv4⟩ := hv
        have hw : (updl env σ.ne [v] σ.ne).1 = .agg arr := by show (upd env σ.ne v σ.ne).1 = _; rw [upd_same, hv1, hv2]
        have hrun := store_run (X := X) (w := w) (o := 0) (v := y.den env β) hn hheap (by rw [hv2]; exact hv3) (by rw [hb2, hnb]; omega) (by rw [hv2]; exact hv4)
        have hspl : splice (bl.cont.den env β) 0 (y.den env β).cells.toList = arr := by
          rw [hv2]
          apply Array.ext'
          simp only [splice, Value.cells, List.take_zero, List.nil_append, Nat.zero_add, Array.length_toList]
          rw [List.drop_of_length_le (by rw [Array.length_toList, hb2]; omega), List.append_nil]
        rw [hspl] at hrun
        refine wp_of_skip (store_exec ho hxp hy hrun) (hK [v] _ ⟨⟨hv1, arr, hv2, hv3, hv4⟩, rfl⟩ ?_ ?_ (hex _ rfl rfl rfl) ?_)
        · show (aggArr (updl env σ.ne [v] σ.ne).1).size = bl.n
          rw [hw]; exact hv3.trans hnb
        · show (updl env σ.ne [v] σ.ne).1 = .agg (aggArr (updl env σ.ne [v] σ.ne).1)
          rw [hw]; rfl
        · show SetBlk w _ (β b) (.cells (aggArr (updl env σ.ne [v] σ.ne).1) bl.ty (0, 0))
          rw [hw]
          exact setBlk_setRow hheap
      split at h
      · rename_i l xs hl hxs
        split at h
        · rename_i hc
          simp only [Bool.and_eq_true, decide_eq_true_eq] at hc
          obtain ⟨⟨hc1, hc2⟩, hc3⟩ := hc
          cases h
          have hxE : ∀ a ∈ xs, ∀ e ∈ atE a, e < σ.ne := fun a ha e he => hwe e (by
            cases y with
            | x at_ => cases ag <;> simp [cellsOf] at hxs; subst hxs; simp at ha; subst ha; exact he
            | l as => cases ag <;> simp [cellsOf] at hxs; subst hxs; exact List.mem_flatMap.2 ⟨a, ha, he⟩
            | t ss => simp [cellsOf] at hxs)
          obtain ⟨vs, hvs⟩ := chain_exists (plainAts σ.ne xs).1 env σ.ne (fun nd hnd => by
            have : ∀ (l : List At) (ne : Nat) (nd : Nd), nd ∈ (plainAts ne l).1 → ∃ i, nd = .plain i := by
              intro l
              induction l with
              | nil => intro ne nd h; simp [plainAts] at h
              | cons at_ l ih =>
                intro ne nd h
                cases at_ <;> simp only [plainAts, List.mem_cons] at h <;> first | exact ih _ _ h | (rcases h with rfl | h; exact ⟨_, rfl⟩; exact ih _ _ h)
            obtain ⟨i, rfl⟩ := this _ _ _ hnd
            rfl) hp
          obtain ⟨hq1, hq2⟩ := plainAts_sound X xs σ.ne env vs hxE hc3 hvs
          have hcells := cellsOf_den (env := env) (β := β) hxs (.inr ⟨hc3, hq2⟩)
          have hsz : (y.den env β).cells.size = n := by rw [← Array.length_toList, hcells]; simpa using hc1
          have hd : bl.cont.den env β = (l.map (At.den env β)).toArray := by rw [hl]; rfl
          have hrun := store_run (X := X) (w := w) (o := o') hn hheap hsz (by rw [hd]; simpa using hc2) (by
            rw [Array.all_eq_true']; intro u hu; rw [← Array.mem_toList_iff, hcells] at hu; exact hq2 u hu)
          have hnew : (Cont.en (splA l o' (plainAts σ.ne xs).2)).den (updl env σ.ne vs) β = splice (bl.cont.den env β) o' (y.den env β).cells.toList := by
            show ((splA l o' (plainAts σ.ne xs).2).map (At.den (updl env σ.ne vs) β)).toArray = _
            rw [splA_den, hq1, hcells, hd]
            congr 2
            exact ats_congr (fun e he => updl_lt _ _ _ _ (hblkE b bl hb e (by rw [hl]; exact he))) (fun _ _ => rfl)
          refine wp_of_skip (store_exec ho hx hy hrun) (hK vs _ hvs ?_ trivial (hex _ rfl rfl rfl) ?_)
          · show Array.size ((Cont.en (splA l o' (plainAts σ.ne xs).2)).den (updl env σ.ne vs) β) = bl.n
            rw [hnew, splice_size (by rw [Array.length_toList, hsz, hd]; simpa using hc2), hb2]
          · show SetBlk w _ (β b) (.cells ((Cont.en (splA l o' (plainAts σ.ne xs).2)).den (updl env σ.ne vs) β) bl.ty (0, 0))
            rw [hnew]
            exact setBlk_setRow hheap
        · cases h
      · rename_i l hl hnone
        split at h
        · rename_i hc
          simp only [Bool.and_eq_true, decide_eq_true_eq] at hc
          obtain ⟨⟨hc1, hc2⟩, hc3⟩ := hc
          cases h
          obtain ⟨v, hv⟩ : ∃ v, (Nd.asAgg n y).den X env β v := hp.1
          have hpv := hp.2 v hv
          obtain ⟨hv1, arr, hv2, hv3, hv4⟩ := hv
          obtain ⟨vs, hvs⟩ := chain_exists (selsFrom σ.ne 0 n) (upd env σ.ne v) (σ.ne + 1) (fun nd hnd => by
            have : ∀ (n k : Nat) (nd : Nd), nd ∈ selsFrom σ.ne k n → ∃ c p m ag, nd = .sel c p m ag := by
              intro n
              induction n with
              | zero => intro k nd h; simp [selsFrom] at h
              | succ n ih =>
                intro k nd h
                simp only [selsFrom, List.mem_cons] at h
                rcases h with rfl | h
                · exact ⟨_, _, _, _, rfl⟩
                · exact ih _ _ h
            obtain ⟨c, p, m, ag', rfl⟩ := this _ _ _ hnd
            rfl) hpv
          have hvarr : aggArr (upd env σ.ne v σ.ne).1 = arr := by rw [upd_same, hv1, hv2]; rfl
          have hq := sels_sound X σ.ne arr n 0 (σ.ne + 1) (upd env σ.ne v) vs (by omega) hvarr hvs (.inl (by omega))
          have hd : bl.cont.den env β = (l.map (At.den env β)).toArray := by rw [hl]; rfl
          have hrun := store_run (X := X) (w := w) (o := o') (v := y.den env β) hn hheap (by rw [hv2]; exact hv3) (by rw [hd]; simpa using hc2) (by rw [hv2]; exact hv4)
          have hnew : (Cont.en (splA l o' (varsFrom (σ.ne + 1) n))).den (updl env σ.ne (v :: vs)) β = splice (bl.cont.den env β) o' (y.den env β).cells.toList := by
            show ((splA l o' (varsFrom (σ.ne + 1) n)).map (At.den (updl env σ.ne (v :: vs)) β)).toArray = _
            rw [splA_den, updl, hq, hv2, hd]
            have e1 : l.map (At.den (updl (upd env σ.ne v) (σ.ne + 1) vs) β) = l.map (At.den env β) := ats_congr (fun e he => by
              have := hblkE b bl hb e (by rw [hl]; exact he)
              rw [updl_lt _ _ _ _ (by omega), upd_ne _ _ (by omega)]) (fun _ _ => rfl)
            rw [e1, List.drop_zero, List.take_of_length_le (by rw [Array.length_toList]; omega)]
            rfl
          refine wp_of_skip (store_exec ho hx hy hrun) (hK (v :: vs) _ ⟨⟨hv1, arr, hv2, hv3, hv4⟩, hvs⟩ ?_ trivial (hex _ rfl rfl rfl) ?_)
          · show Array.size ((Cont.en (splA l o' (varsFrom (σ.ne + 1) n))).den (updl env σ.ne (v :: vs)) β) = bl.n
            rw [hnew, splice_size (by rw [Array.length_toList, hv2, hd]; simp only [Value.cells, hv3]; simpa using hc2), hb2]
          · show SetBlk w _ (β b) (.cells ((Cont.en (splA l o' (varsFrom (σ.ne + 1) n))).den (updl env σ.ne (v :: vs)) β) bl.ty (0, 0))
            rw [hnew]
            exact setBlk_setRow hheap
        · split at h
          · rename_i hc
            simp only [Bool.and_eq_true, beq_iff_eq] at hc
            cases h
            obtain ⟨⟨hc1, rfl⟩, hc3⟩ := hc
            exact hwhole hc3 hx rfl
          · split at h
            · cases h
              exact hupd ⟨o', 0, none⟩ hx rfl
            · cases h
      · split at h
        · rename_i hc
          simp only [Bool.and_eq_true, beq_iff_eq] at hc
          cases h
          obtain ⟨⟨hc1, rfl⟩, hc3⟩ := hc
          exact hwhole hc3 hx rfl
        · split at h
          · cases h
            exact hupd ⟨o', 0, none⟩ hx rfl
          · cases h
  · rename_i b base stride i
    cases hb : blk? σ b with
    | none => simp [hb] at h
    | some bl =>
    simp only [hb, Option.bind_some] at h
    obtain ⟨hb1, hb2, hb3⟩ := hs.mem.blk b bl (blk?_some hb)
    split at h
    · cases h
    · rename_i hown
      have hown' : bl.own = true := by simpa using hown
      have hheap : w.heap[β b]? = some (.cells (bl.cont.den env β) bl.ty (0, 0)) := by simpa [Holds, hown'] using hb1
      split at h
      · cases h
        obtain ⟨v, hv⟩ : ∃ v, (Nd.upd bl.cont ⟨base, stride, some i⟩ n y).den X env β v := hp.1
        obtain ⟨hv1, hv2, hv3, hv4⟩ := hv
        have hrun := store_run (X := X) (w := w) (o := (⟨base, stride, some i⟩ : Pos).den env) hn hheap hv2 hv1 hv3
        have hsp : (splice (bl.cont.den env β) ((⟨base, stride, some i⟩ : Pos).den env) (y.den env β).cells.toList).size = bl.n := by rw [splice_size (by rw [Array.length_toList, hv2]; exact hv1), hb2]
        have hw : updl env σ.ne [v] σ.ne = v := upd_same env σ.ne v
        refine wp_of_skip (store_exec ho hx hy hrun) (hK [v] _ ⟨⟨hv1, hv2, hv3, hv4⟩, rfl⟩ ?_ ?_ ⟨bl, blk?_some hb, hown', hown', rfl, rfl⟩ ?_)
        · show (aggArr (updl env σ.ne [v] σ.ne).1).size = bl.n
          rw [hw, hv4]; exact hsp
        · show (updl env σ.ne [v] σ.ne).1 = .agg (aggArr (updl env σ.ne [v] σ.ne).1)
          rw [hw, hv4]; rfl
        · show SetBlk w _ (β b) (.cells (aggArr (updl env σ.ne [v] σ.ne).1) bl.ty (0, 0))
          rw [hw, hv4]
          exact setBlk_setRow hheap
      · cases h
  · cases h
end
end Go.Vc

/-
  The engine is sound, part 4: one operation, whichever.
-/
namespace Go.Vc
open Go Go.RowKit
section
variable {X : Ctx} {σ : St} {env : Env} {β : Nat → Nat} {a : Act} {w : World} {g : List (At × Bool)}
/-! addresses -/
theorem underlying_run {t : TypeId} {d : TypeDesc} (h : X.P.underlying t = some d) (w : World) : (underlying t).run X.P w = .ok d w := run_underlying h w
theorem constNat_den {i : SV} {k : Nat} (h : constNat? i = some k) : ∃ kd, i.den env β = .int kd k := by
  unfold constNat? at h
  split at h
  · rename_i kd n
    split at h
    · rename_i h0
      cases h
      exact ⟨kd, by simp [SV.den, At.den]; omega⟩
    · cases h
  · cases h
theorem indexAddr_arr {t elem : TypeId} {len b o s : Nat} (hu : X.P.underlying t = some (.array len elem)) (hs : sz X.P elem = some s) {kd : IntKind} {n : Int} (h0 : 0 ≤ n) (h1 : n < (len : Int)) :
    (Instr.indexAt t (.pointer (some ⟨b, o, none⟩)) (.int kd n)).run X.P w = .ok (.pointer (some ⟨b, o + n.toNat * s, none⟩)) w := by
  simp [Instr.indexAt, asIntOf, underlying_run hu, Instr.sureAddr, h0, h1, run_sz hs, add_none]
theorem indexAddr_sl {t elem : TypeId} {len cap b o s : Nat} (hu : X.P.underlying t = some (.slice elem)) (hs : sz X.P elem = some s) {kd : IntKind} {n : Int} (h0 : 0 ≤ n) (h1 : n < (len : Int)) :
    (Instr.indexAt t (.slice (some ⟨b, o, none⟩) len cap) (.int kd n)).run X.P w = .ok (.pointer (some ⟨b, o + n.toNat * s, none⟩)) w := by
  simp [Instr.indexAt, asIntOf, underlying_run hu, h0, h1, run_sz hs, add_none]
theorem stepIndexAddr_sound {o : Oper} {t : TypeId} {xo io : Operand} (ho : o.op = .indexAddr t xo io) {x i : SV} (hx : a.eval xo = x.den env β) (hi : a.eval io = i.den env β)
    {r : Res} (h : stepIndexAddr X.P σ t x i = some r)
    (hp : PreChain X β r.nds env σ.ne) {K : Act → World → Prop} {Q : Exit → Act → World → Prop} (hK : After X σ env β a w o.dst r K) : o.wp X.P a w K Q := by
  have hrun : ∀ v, (Instr.indexAt t (x.den env β) (i.den env β)).run X.P w = .ok v w → (execOp a.eval o).run X.P w = .ok (.value v) w := fun v hv => by
    simp [execOp, ho, hx, hi, hv]
  have hiad : r = ⟨[.iad t x i], .val (.x (.v σ.ne))⟩ → o.wp X.P a w K Q := fun hr => by
    subst hr
    refine one_sound rfl hp (fun v hv => hrun _ ?_) hK
    simp only [SV.den, At.den, upd_same]
    exact hv w
  unfold stepIndexAddr at h
  split at h
  · rename_i len elem b o' hu
    cases hs : sz X.P elem with
    | none => simp [hs] at h
    | some s =>
    simp only [hs, Option.bind_eq_bind, Option.bind_some] at h
    split at h
    · rename_i k hk
      split at h
      · rename_i hlt
        cases h
        obtain ⟨kd, hd⟩ := constNat_den (env := env) (β := β) hk
        refine val_sound (hrun _ ?_) hK
        rw [hd]
        have := indexAddr_arr (X := X) (w := w) (b := β b) (o := o') (kd := kd) hu hs (n := (k : Int)) (by omega) (by omega)
        simpa [SV.den, At.den] using this
      · cases h
    · split at h
      · rename_i hk j
        cases h
        refine one_sound rfl hp (fun v hv => hrun _ ?_) hK
        obtain ⟨hv1, kd, n, hv2, hv3, hv4⟩ := hv
        rw [hv2] at hv1
        rw [hv2]
        have := indexAddr_arr (X := X) (w := w) (b := β b) (o := o') (kd := kd) hu hs hv3 hv4
        simpa [SV.den, At.den, upd_same, hv1, natOf, intNat] using this
      · cases h
  · rename_i elem b off len cap hu
    cases hs : sz X.P elem with
    | none => simp [hs] at h
    | some s =>
    simp only [hs, Option.bind_eq_bind, Option.bind_some] at h
    split at h
    · rename_i k hk
      split at h
      · rename_i hlt
        cases h
        obtain ⟨kd, hd⟩ := constNat_den (env := env) (β := β) hk
        refine val_sound (hrun _ ?_) hK
        rw [hd]
        have := indexAddr_sl (X := X) (w := w) (b := β b) (o := off) (kd := kd) (cap := cap) (len := len) hu hs (n := (k : Int)) (by omega) (by omega)
        simpa [SV.den, At.den] using this
      · cases h
    · split at h
      · rename_i hk j
        cases h
        refine one_sound rfl hp (fun v hv => hrun _ ?_) hK
        obtain ⟨hv1, kd, n, hv2, hv3, hv4⟩ := hv
        rw [hv2] at hv1
        rw [hv2]
        have := indexAddr_sl (X := X) (w := w) (b := β b) (o := off) (kd := kd) (cap := cap) (len := len) hu hs hv3 hv4
        simpa [SV.den, At.den, upd_same, hv1, natOf, intNat] using this
      · cases h
  · cases h; exact hiad rfl
  · cases h; exact hiad rfl
  · cases h
theorem stepFieldAddr_sound {o : Oper} {t : TypeId} {xo : Operand} {f : Nat} (ho : o.op = .fieldAddr t xo f) {x : SV} (hx : a.eval xo = x.den env β)
    {r : Res} (h : stepFieldAddr X.P σ t x f = some r)
    (hp : PreChain X β r.nds env σ.ne) {K : Act → World → Prop} {Q : Exit → Act → World → Prop} (hK : After X σ env β a w o.dst r K) : o.wp X.P a w K Q := by
  have hrun : ∀ v, (Instr.fieldAt t (x.den env β) f).run X.P w = .ok v w → (execOp a.eval o).run X.P w = .ok (.value v) w := fun v hv => by
    simp [execOp, ho, hx, hv]
  have hfad : r = ⟨[.fad t x f], .val (.x (.v σ.ne))⟩ → o.wp X.P a w K Q := fun hr => by
    subst hr
    refine one_sound rfl hp (fun v hv => hrun _ ?_) hK
    simp only [SV.den, At.den, upd_same]
    exact hv w
  have hplace : ∀ (b o' : Nat) (fs : Array Field) (fd : Field) (s : Nat), X.P.underlying t = some (.struct fs) → fs[f]? = some fd → sz X.P fd.type = some s → s ≠ 0 →
      (Instr.fieldAt t (.pointer (some ⟨b, o', none⟩)) f).run X.P w = .ok (.pointer (some ⟨b, o' + fd.offset, none⟩)) w := fun b o' fs fd s hu hfd hs h0 => by
    simp [Instr.fieldAt, underlying_run hu, hfd, Instr.sureAddr, fieldPlace, run_sz hs, h0, add_none]
  unfold stepFieldAddr at h
  split at h
  · rename_i b o'
    cases hu : X.P.underlying t with
    | none => simp [hu] at h
    | some d =>
    cases d <;> simp only [hu, Option.bind_eq_bind] at h <;> try (cases h; done)
    rename_i fs
    cases hfd : fs[f]? with
    | none => simp [hfd] at h
    | some fd =>
    cases hs : sz X.P fd.type with
    | none => simp [hfd, hs] at h
    | some s =>
    simp only [hfd, hs, Option.bind_some] at h
    split at h
    · cases h
    · rename_i h0
      cases h
      refine val_sound (hrun _ ?_) hK
      simpa only [SV.den, At.den] using hplace (β b) o' fs fd s hu hfd hs h0
  · rename_i b base stride i
    cases hu : X.P.underlying t with
    | none => simp [hu] at h
    | some d =>
    cases d <;> simp only [hu, Option.bind_eq_bind] at h <;> try (cases h; done)
    rename_i fs
    cases hfd : fs[f]? with
    | none => simp [hfd] at h
    | some fd =>
    cases hs : sz X.P fd.type with
    | none => simp [hfd, hs] at h
    | some s =>
    simp only [hfd, hs, Option.bind_some] at h
    split at h
    · cases h
    · rename_i h0
      cases h
      refine val_sound (hrun _ ?_) hK
      have := hplace (β b) (base + natOf (env i) * stride) fs fd s hu hfd hs h0
      simp only [SV.den, At.den]
      rw [this, show base + natOf (env i) * stride + fd.offset = base + fd.offset + natOf (env i) * stride from by omega]
  · cases h; exact hfad rfl
  · cases h; exact hfad rfl
  · cases h
/-! new blocks and aggregates -/
theorem zeroAts_sound {t : TypeId} {z : List At} (h : zeroAts X.P t = some z) : ∃ v, (X.P.info? t).bind (·.zero) = some v ∧ z.map (At.den env β) = v.cells.toList := by
  unfold zeroAts at h
  split at h
  · rename_i v hv
    cases h
    exact ⟨v, hv, by rw [List.map_map]; exact List.map_id' v.cells.toList⟩
  · cases h
theorem sels_kind {ne : Nat} : ∀ (n k : Nat) (nd : Nd), nd ∈ selsFrom ne k n → nd.pl = true
  | 0, k, nd, h => by simp [selsFrom] at h
  | n + 1, k, nd, h => by
    simp only [selsFrom, List.mem_cons] at h
    rcases h with rfl | h
    · exact rfl
    · exact sels_kind n _ nd h
theorem plain_kind : ∀ (l : List At) (ne : Nat) (nd : Nd), nd ∈ (plainAts ne l).1 → nd.pl = true
  | [], ne, nd, h => by simp [plainAts] at h
  | at_ :: l, ne, nd, h => by
    cases at_ <;> simp only [plainAts, List.mem_cons] at h <;> first
      | exact plain_kind l _ nd h
      | (rcases h with rfl | h
         · exact rfl
         · exact plain_kind l _ nd h)
theorem vars_len : ∀ (n k : Nat), (varsFrom k n).length = n
  | 0, _ => rfl
  | n + 1, k => by simp [varsFrom, vars_len n]
theorem vars_lt : ∀ (n k : Nat) (x : At), x ∈ varsFrom k n → ∀ e ∈ atE x, e < k + n
  | 0, _, x, h => by simp [varsFrom] at h
  | n + 1, k, x, h => by
    simp only [varsFrom, List.mem_cons] at h
    rcases h with rfl | h
    · intro e he; simp [atE] at he; omega
    · intro e he; have := vars_lt n (k + 1) x h e he; omega
theorem sels_len (e : Nat) : ∀ (n k : Nat), (selsFrom e k n).length = n
  | 0, _ => rfl
  | n + 1, k => by simp [selsFrom, sels_len e n]
theorem plain_lt : ∀ (l : List At) (ne : Nat) (m : Nat), (∀ x ∈ l, ∀ e ∈ atE x, e < m) → m ≤ ne → ∀ x ∈ (plainAts ne l).2, ∀ e ∈ atE x, e < ne + (plainAts ne l).1.length
  | [], ne, m, _, _, x, h => by simp [plainAts] at h
  | at_ :: l, ne, m, hm, hle, x, h => by
    intro e he
    have h2 : ∀ x ∈ l, ∀ e ∈ atE x, e < m := fun x hx => hm x (by simp [hx])
    cases at_ <;> simp only [plainAts, List.mem_cons, List.length_cons] at h ⊢
    case v i =>
      rcases h with rfl | h
      · simp [atE] at he; omega
      · have := plain_lt l (ne + 1) m h2 (by omega) x h e he; omega
    all_goals
      rcases h with rfl | h
      · have := hm _ (List.mem_cons_self ..) e he; omega
      · exact plain_lt l ne m h2 hle x h e he
theorem plain_len : ∀ (l : List At) (ne : Nat), (plainAts ne l).2.length = l.length
  | [], ne => rfl
  | at_ :: l, ne => by cases at_ <;> simp [plainAts, plain_len l]
/-- The nodes of 'expand', and what its atoms denote. -/
theorem expand_sound {ne n : Nat} {ag : Bool} {s : SV} {ns : List Nd} {l : List At} (h : expand ne n ag s = some (ns, l)) :
    (∀ nd ∈ ns, nd.pl = true) ∧ l.length = n ∧
    ∀ (env : Env) (vs : List Val), (∀ e ∈ svE s, e < ne) → Chain X β ns env ne vs →
      (s.den env β).cells.toList = l.map (At.den (updl env ne vs) β) ∧ ∀ x ∈ l, ∀ e ∈ atE x, e < ne + ns.length := by
  unfold expand at h
  split at h
  · rename_i as
    split at h
    · rename_i hc
      simp only [Bool.and_eq_true, beq_iff_eq] at hc
      cases h
      refine ⟨fun nd h => (by cases h), hc.2, fun env vs hE hv => ?_⟩
      simp only [Chain] at hv
      subst hv
      exact ⟨by simp [SV.den, Value.cells, updl], fun x hx e he => by simpa using hE e (List.mem_flatMap.2 ⟨x, hx, he⟩)⟩
    · cases h
  · rename_i at_
    split at h
    · rename_i hag
      split at h
      · rename_i hn16
        cases h
        refine ⟨fun nd h => ?_, vars_len _ _, fun env vs hE hv => ?_⟩
        · simp only [List.mem_cons] at h
          rcases h with rfl | h
          · exact rfl
          · exact sels_kind _ _ _ h
        · cases vs with
          | nil => exact hv.elim
          | cons v vs =>
            obtain ⟨⟨hv1, arr, hv2, hv3, hv4⟩, hvs⟩ := hv
            have hvarr : aggArr (upd env ne v ne).1 = arr := by rw [upd_same, hv1, hv2]; rfl
            have hq := sels_sound X ne arr n 0 (ne + 1) (upd env ne v) vs (by omega) hvarr hvs (.inl (by omega))
            refine ⟨?_, fun x hx e he => ?_⟩
            · rw [updl, hq, hv2, List.drop_zero, List.take_of_length_le (by rw [Array.length_toList]; omega)]
              rfl
            · have := vars_lt _ _ x hx e he
              simp only [List.length_cons, sels_len]; omega
      · cases h
    · rename_i hag
      split at h
      · rename_i hn1
        simp only [Bool.and_eq_true, beq_iff_eq] at hn1
        simp only [Option.some.injEq] at h
        have e1 : ns = (plainAts ne [at_]).1 := by rw [h]
        have e2 : l = (plainAts ne [at_]).2 := by rw [h]
        subst e1 e2
        refine ⟨fun nd h => plain_kind _ _ nd h, by rw [plain_len]; exact hn1.1.symm, fun env vs hE hv => ?_⟩
        have hlt : ∀ x ∈ [at_], ∀ e ∈ atE x, e < ne := fun x hx e he => by simp at hx; subst hx; exact hE e he
        obtain ⟨h1, h2⟩ := plainAts_sound X [at_] ne env vs hlt (by simpa using hn1.2) hv
        refine ⟨?_, fun x hx e he => plain_lt [at_] ne ne hlt (Nat.le_refl _) x hx e he⟩
        rw [h1]
        have := h2 (at_.den env β) (by simp)
        simp only [SV.den, List.map_cons, List.map_nil]
        cases hd : at_.den env β <;> simp [Value.cells]
        rw [hd] at this; simp [Value.oneCell'] at this
      · cases h
  · cases h
theorem fill_cells (cells : Array Value) (off : Nat) (vs : List Value) : ∀ (k : Nat), off + k + vs.length ≤ cells.size →
    (vs.zipIdx k).foldl (fun cs (p : Value × Nat) => cs.setIfInBounds (off + p.2) p.1) cells = splice cells (off + k) vs := by
  induction vs generalizing cells with
  | nil => intro k h; apply Array.ext'; simp [splice]
  | cons v vs ih =>
    intro k h
    simp only [List.length_cons] at h
    simp only [List.zipIdx_cons, List.foldl_cons]
    rw [ih _ (k + 1) (by simp; omega)]
    apply Array.ext'
    apply List.ext_getElem?
    intro j
    simp only [splice, Array.toList_setIfInBounds, List.length_cons, List.append_assoc, List.cons_append]
    have l1 : (List.take (off + (k + 1)) (cells.toList.set (off + k) v)).length = off + k + 1 := by simp; omega
    have l2 : (List.take (off + k) cells.toList).length = off + k := by simp; omega
    rw [List.getElem?_append, List.getElem?_append, List.getElem?_append (l₁ := List.take (off + k) cells.toList), l1, l2]
    by_cases h1 : j < off + k
    · rw [if_pos (by omega), if_pos h1, List.getElem?_take_of_lt (by omega), List.getElem?_take_of_lt h1, List.getElem?_set_ne (by omega)]
    · rw [if_neg h1]
      by_cases h2 : j = off + k
      · subst h2
        rw [if_pos (by omega), List.getElem?_take_of_lt (by omega), Nat.sub_self, List.getElem?_cons_zero, List.getElem?_set_self (by simp; omega)]
      · rw [if_neg (by omega), show j - (off + k) = (j - (off + k + 1)) + 1 from by omega, List.getElem?_cons_succ, List.getElem?_append]
        by_cases h3 : j - (off + k + 1) < vs.length
        · rw [if_pos h3, if_pos h3]
        · rw [if_neg h3, if_neg h3, List.getElem?_drop, List.getElem?_drop, List.getElem?_set_ne (by omega)]
          congr 1
          omega
theorem placeOf_struct {t : TypeId} {fs : Array Field} (hu : X.P.underlying t = some (.struct fs)) {i off n : Nat} {ag : Bool} (h : placeOf X.P t i = some (off, n, ag)) :
    ∃ f, fs[i]? = some f ∧ f.offset = off ∧ sz X.P f.type = some n := by
  unfold placeOf at h
  simp only [hu, Option.bind_eq_bind] at h
  cases hf : fs[i]? with
  | none => simp [hf] at h
  | some f =>
  cases hs : sz X.P f.type with
  | none => simp [hf, hs] at h
  | some s =>
  cases ha : agg? X.P f.type with
  | none => simp [hf, hs, ha] at h
  | some b => simp [hf, hs, ha] at h; exact ⟨f, rfl, h.1, by rw [hs, h.2.1]⟩
theorem placeOf_array {t e : TypeId} {m : Nat} (hu : X.P.underlying t = some (.array m e)) {i off n : Nat} {ag : Bool} (h : placeOf X.P t i = some (off, n, ag)) :
    off = i * n ∧ sz X.P e = some n := by
  unfold placeOf at h
  simp only [hu, Option.bind_eq_bind] at h
  cases hs : sz X.P e with
  | none => simp [hs] at h
  | some s =>
  cases ha : agg? X.P e with
  | none => simp [hs, ha] at h
  | some b => simp [hs, ha] at h; obtain ⟨h1, h2, h3⟩ := h; subst h2; exact ⟨h1.symm, rfl⟩
theorem chain_split {X : Ctx} : ∀ (ns ms : List Nd) (env : Env) (ne : Nat) (vs : List Val), Chain X β (ns ++ ms) env ne vs →
    ∃ us ws, vs = us ++ ws ∧ Chain X β ns env ne us ∧ Chain X β ms (updl env ne us) (ne + ns.length) ws
  | [], ms, env, ne, vs, h => ⟨[], vs, rfl, rfl, h⟩
  | nd :: ns, ms, env, ne, [], h => h.elim
  | nd :: ns, ms, env, ne, v :: vs, h => by
    obtain ⟨us, ws, e, h1, h2⟩ := chain_split ns ms _ _ _ h.2
    refine ⟨v :: us, ws, by rw [e]; rfl, ⟨h.1, h1⟩, ?_⟩
    simp only [List.length_cons, updl]
    rw [show ne + (ns.length + 1) = ne + 1 + ns.length from by omega]
    exact h2
theorem buildParts_sound (place : Nat → Option (Nat × Nat)) {t : TypeId} (hplace : ∀ i off n ag, placeOf X.P t i = some (off, n, ag) → place i = some (off, n)) : ∀ (ps : List (Nat × SV)) (ne : Nat) (z : List At) (ns : List Nd) (z' : List At),
    buildParts X.P t ne ps z = some (ns, z') →
    (∀ nd ∈ ns, nd.pl = true) ∧
    ∀ (env : Env) (vs : List Val), (∀ p ∈ ps, ∀ e ∈ svE p.2, e < ne) → (∀ e ∈ z.flatMap atE, e < ne) → Chain X β ns env ne vs →
      Instr.fill place (z.map (At.den env β)).toArray (ps.map fun p => (p.1, p.2.den env β)) = some (z'.map (At.den (updl env ne vs) β)).toArray
  | [], ne, z, ns, z', h => by
    simp only [buildParts, Option.some.injEq, Prod.mk.injEq] at h
    obtain ⟨rfl, rfl⟩ := h
    refine ⟨fun _ h => (by cases h), fun env vs _ _ hv => ?_⟩
    simp only [Chain] at hv; subst hv
    rfl
  | (i, s) :: r, ne, z, ns, z', h => by
    simp only [buildParts, Option.bind_eq_bind] at h
    cases hpl : placeOf X.P t i with
    | none => simp [hpl] at h
    | some q =>
    obtain ⟨off, n, ag⟩ := q
    simp only [hpl, Option.bind_some] at h
    cases hex : expand ne n ag s with
    | none => simp [hex] at h
    | some q =>
    obtain ⟨n1, l⟩ := q
    simp only [hex, Option.bind_some] at h
    split at h
    · rename_i hc
      simp only [Bool.and_eq_true, decide_eq_true_eq] at hc
      cases hrec : buildParts X.P t (ne + n1.length) r (splA z off l) with
      | none => simp [hrec] at h
      | some q =>
      obtain ⟨ms, z2⟩ := q
      simp only [hrec, Option.bind_some, Option.some.injEq, Prod.mk.injEq] at h
      obtain ⟨rfl, rfl⟩ := h
      obtain ⟨hx1, hx0, hx2⟩ := expand_sound (X := X) (β := β) hex
      obtain ⟨hr1, hr2⟩ := buildParts_sound place hplace r _ _ _ _ hrec
      refine ⟨fun nd hnd => ?_, fun env vs hE hz hv => ?_⟩
      · rcases List.mem_append.1 hnd with h | h
        · exact hx1 nd h
        · exact hr1 nd h
      · obtain ⟨us, ws, rfl, hu, hw⟩ := chain_split _ _ _ _ _ hv
        obtain ⟨hcells, hlE⟩ := hx2 env us (hE (i, s) (by simp)) hu
        have hul := hu.length
        have hlen : (s.den env β).cells.size = n := by rw [← Array.length_toList, hcells]; simpa using hx0
        have hsv : ∀ (s' : SV), (∀ e ∈ svE s', e < ne) → s'.den (updl env ne us) β = s'.den env β := fun s' h => SV.den_congr (fun e he => updl_lt _ _ _ _ (h e he)) (fun _ _ => rfl)
        have hzz : z.map (At.den (updl env ne us) β) = z.map (At.den env β) := ats_congr (fun e he => updl_lt _ _ _ _ (hz e he)) (fun _ _ => rfl)
        have ih := hr2 (updl env ne us) ws (fun p hp e he => by have := hE p (by simp [hp]) e he; omega) (fun e he => by
            obtain ⟨x, hx, he⟩ := List.mem_flatMap.1 he
            simp only [splA, List.mem_append] at hx
            rcases hx with (hx | hx) | hx
            · have := hz e (List.mem_flatMap.2 ⟨x, List.mem_of_mem_take hx, he⟩); omega
            · exact hlE x hx e he
            · have := hz e (List.mem_flatMap.2 ⟨x, List.mem_of_mem_drop hx, he⟩); omega) hw
        have hps : (r.map fun p => (p.1, p.2.den (updl env ne us) β)) = r.map fun p => (p.1, p.2.den env β) :=
          List.map_congr_left fun p hp => by rw [hsv p.2 (hE p (by simp [hp]))]
        rw [splA_den, hzz, ← hcells, hps] at ih
        have hf := fill_cells (z.map (At.den env β)).toArray off (s.den env β).cells.toList 0 (by simp only [Array.length_toList, hlen, List.size_toArray, List.length_map]; omega)
        simp only [List.map_cons, Instr.fill, hplace i off n ag hpl]
        rw [if_neg (by simp only [hlen, List.size_toArray, List.length_map, ne_eq, not_true_eq_false, decide_false, Bool.false_or, decide_eq_true_eq]; omega)]
        rw [updl_append, hul, ← ih]
        congr 1
        rw [← Array.foldl_toList, Array.toList_zipIdx]
        simpa using hf
    · cases h
end
end Go.Vc
