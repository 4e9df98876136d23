/-
  The engine is sound, part 1: what a value says hangs on the numbers that it names; what is known of memory and of the frame.
-/
import Derived.Test.YtadnlcennghlbaaVcDefs
namespace Go.Vc
open Go Go.RowKit
theorem upd_same {α : Type} (f : Nat → α) (i : Nat) (v : α) : upd f i v i = v := by simp [upd]
theorem upd_ne {α : Type} (f : Nat → α) {i j : Nat} (v : α) (h : j ≠ i) : upd f i v j = f j := by simp [upd, h]
theorem updl_lt {α : Type} (vs : List α) : ∀ (f : Nat → α) (i j : Nat), j < i → updl f i vs j = f j := by
  induction vs with
  | nil => intro f i j _; rfl
  | cons v vs ih => intro f i j h; simp only [updl]; rw [ih _ _ _ (by omega), upd_ne _ _ (by omega)]
theorem updl_append {α : Type} (vs us : List α) : ∀ (f : Nat → α) (i : Nat), updl f i (vs ++ us) = updl (updl f i vs) (i + vs.length) us := by
  induction vs with
  | nil => intro f i; rfl
  | cons v vs ih => intro f i; simp only [List.cons_append, updl, ih, List.length_cons]; rw [show i + 1 + vs.length = i + (vs.length + 1) from by omega]
theorem updl_get {α : Type} (vs : List α) : ∀ (f : Nat → α) (i k : Nat) (h : k < vs.length), updl f i vs (i + k) = vs[k] := by
  induction vs with
  | nil => intro f i k h; simp at h
  | cons v vs ih =>
    intro f i k h
    simp only [updl]
    cases k with
    | zero => rw [updl_lt _ _ _ _ (by omega)]; exact upd_same f i v
    | succ k =>
      have := ih (upd f i v) (i + 1) k (by simpa using h)
      rw [show i + (k + 1) = i + 1 + k from by omega, this]; rfl
section congr
variable {env env' : Env} {β β' : Nat → Nat}
theorem At.den_congr {a : At} (he : ∀ e ∈ atE a, env e = env' e) (hb : ∀ b ∈ atB a, β b = β' b) : a.den env β = a.den env' β' := by
  cases a <;> simp only [At.den, atE, atB, List.mem_singleton, forall_eq, List.not_mem_nil] at * <;> simp [*]
theorem ats_congr {l : List At} (he : ∀ e ∈ l.flatMap atE, env e = env' e) (hb : ∀ b ∈ l.flatMap atB, β b = β' b) : l.map (At.den env β) = l.map (At.den env' β') :=
  List.map_congr_left fun a ha => At.den_congr (fun e h => he e (List.mem_flatMap.2 ⟨a, ha, h⟩)) (fun e h => hb e (List.mem_flatMap.2 ⟨a, ha, h⟩))
theorem SV.den_congr {s : SV} (he : ∀ e ∈ svE s, env e = env' e) (hb : ∀ b ∈ svB s, β b = β' b) : s.den env β = s.den env' β' := by
  cases s with
  | x a => exact At.den_congr he hb
  | l as => simp only [SV.den]; rw [ats_congr he hb]
  | t ss =>
    simp only [SV.den]
    congr 2
    refine List.map_congr_left fun p hp => ?_
    have h1 : ∀ e ∈ p.1.flatMap atE, env e = env' e := fun e h => he e (List.mem_flatMap.2 ⟨p, hp, h⟩)
    have h2 : ∀ e ∈ p.1.flatMap atB, β e = β' e := fun e h => hb e (List.mem_flatMap.2 ⟨p, hp, h⟩)
    obtain ⟨l, b⟩ := p
    cases b with
    | true => simp only [comp]; rw [ats_congr h1 h2]
    | false =>
      cases l with
      | nil => rfl
      | cons a l => exact At.den_congr (fun e h => h1 e (by simp [h])) (fun e h => h2 e (by simp [h]))
theorem Cont.den_congr {c : Cont} (he : ∀ e ∈ contE c, env e = env' e) (hb : ∀ b ∈ contB c, β b = β' b) : c.den env β = c.den env' β' := by
  cases c with
  | en l => simp only [Cont.den]; rw [ats_congr he hb]
  | wh i => simp only [Cont.den]; rw [he i (by simp [contE])]
theorem Pos.den_congr {p : Pos} (he : ∀ e ∈ posE p, env e = env' e) : p.den env = p.den env' := by
  obtain ⟨b, s, i⟩ := p
  cases i with
  | none => rfl
  | some i => simp only [Pos.den]; rw [he i (by simp [posE])]
theorem opt_congr {o : Option SV} (he : ∀ e ∈ oE o, env e = env' e) (hb : ∀ b ∈ oB o, β b = β' b) : o.map (·.den env β) = o.map (·.den env' β') := by
  cases o with
  | none => rfl
  | some s => simp only [Option.map_some]; rw [SV.den_congr he hb]
theorem svs_congr {l : List SV} (he : ∀ e ∈ l.flatMap svE, env e = env' e) (hb : ∀ b ∈ l.flatMap svB, β b = β' b) : l.map (·.den env β) = l.map (·.den env' β') :=
  List.map_congr_left fun a ha => SV.den_congr (fun e h => he e (List.mem_flatMap.2 ⟨a, ha, h⟩)) (fun e h => hb e (List.mem_flatMap.2 ⟨a, ha, h⟩))
theorem parts_congr {l : List (Nat × SV)} (he : ∀ e ∈ l.flatMap (fun p => svE p.2), env e = env' e) (hb : ∀ b ∈ l.flatMap (fun p => svB p.2), β b = β' b) :
    (l.map fun p => (p.1, p.2.den env β)) = l.map fun p => (p.1, p.2.den env' β') :=
  List.map_congr_left fun a ha => by rw [SV.den_congr (fun e h => he e (List.mem_flatMap.2 ⟨a, ha, h⟩)) (fun e h => hb e (List.mem_flatMap.2 ⟨a, ha, h⟩))]
theorem conds_congr {g : List (At × Bool)} (he : ∀ e ∈ gE g, env e = env' e) (hb : ∀ b ∈ gB g, β b = β' b) : conds env β g ↔ conds env' β' g := by
  rw [conds_iff, conds_iff]
  refine ⟨fun h x hx => ?_, fun h x hx => ?_⟩
  · rw [← At.den_congr (fun e h => he e (List.mem_flatMap.2 ⟨x, hx, h⟩)) (fun e h => hb e (List.mem_flatMap.2 ⟨x, hx, h⟩))]; exact h x hx
  · rw [At.den_congr (fun e h => he e (List.mem_flatMap.2 ⟨x, hx, h⟩)) (fun e h => hb e (List.mem_flatMap.2 ⟨x, hx, h⟩))]; exact h x hx
theorem Cont.ok_congr {c : Cont} (he : ∀ e ∈ contE c, env e = env' e) (h : c.ok env) : c.ok env' := by
  cases c with
  | en l => trivial
  | wh i => simp only [Cont.ok] at *; rw [← he i (by simp [contE])]; exact h
theorem Known.congr {X : Ctx} {y : Sy} {bl : List (Nat × Blk)} {w : World} (hs : env y.s = env' y.s) (how : ∀ k ∈ y.ow, β k = β' k) (hE : ∀ e ∈ bl.flatMap (fun kb => contE kb.2.cont), env e = env' e)
    (hB : ∀ b ∈ bl.flatMap (fun kb => kb.1 :: contB kb.2.cont), β b = β' b) (h : Known X env β y bl w) : Known X env' β' y bl w := by
  have e1 : y.ow.map β = y.ow.map β' := List.map_congr_left fun k hk => how k hk
  have e2 : bl.map (toKB env β) = bl.map (toKB env' β') := List.map_congr_left fun kb hkb => by
    have e3 : β kb.1 = β' kb.1 := hB kb.1 (List.mem_flatMap.2 ⟨kb, hkb, by simp⟩)
    have hd := Cont.den_congr (c := kb.2.cont) (fun e he => hE e (List.mem_flatMap.2 ⟨kb, hkb, he⟩)) (fun c hc => hB c (List.mem_flatMap.2 ⟨kb, hkb, by simp [hc]⟩))
    simp only [toKB, e3, hd]
  unfold Known at *
  rw [← hs, ← e1, ← e2]
  exact h
theorem Known.congr_iff {X : Ctx} {y : Sy} {bl : List (Nat × Blk)} {w : World} (hs : env y.s = env' y.s) (how : ∀ k ∈ y.ow, β k = β' k) (hE : ∀ e ∈ bl.flatMap (fun kb => contE kb.2.cont), env e = env' e)
    (hB : ∀ b ∈ bl.flatMap (fun kb => kb.1 :: contB kb.2.cont), β b = β' b) : Known X env β y bl w ↔ Known X env' β' y bl w :=
  ⟨Known.congr hs how hE hB, Known.congr hs.symm (fun k hk => (how k hk).symm) (fun e he => (hE e he).symm) (fun b hb => (hB b hb).symm)⟩
theorem tr_congr {bl : List (Nat × Blk)} (hB : ∀ b ∈ bl.flatMap (fun kb => kb.1 :: contB kb.2.cont), β b = β' b) : (bl.map fun kb => β kb.1) = bl.map fun kb => β' kb.1 :=
  List.map_congr_left fun kb hkb => hB kb.1 (List.mem_flatMap.2 ⟨kb, hkb, by simp⟩)
theorem Nd.den_congr {X : Ctx} (v : Val) : ∀ {n : Nd}, (∀ e ∈ ndE n, env e = env' e) → (∀ b ∈ ndB n, β b = β' b) →
    (n.den X env β v ↔ n.den X env' β' v)
  | .bin op t cx cy x y, he, hb => by simp only [Nd.den]; rw [SV.den_congr (s := x) (fun e h => he e (by simp [ndE, h])) (fun e h => hb e (by simp [ndB, h])), SV.den_congr (s := y) (fun e h => he e (by simp [ndE, h])) (fun e h => hb e (by simp [ndB, h]))]
  | .un .., he, hb | .conv .., he, hb | .ext .., he, hb | .fad .., he, hb | .fld .., he, hb | .len .., he, hb | .asAgg .., he, hb | .ix .., he, hb => by
    simp only [Nd.den]; rw [SV.den_congr he hb]
  | .loadU t x y, he, hb => by
    simp only [Nd.den]
    rw [SV.den_congr (s := x) (fun e h => he e (by simp [ndE, h])) (fun e h => hb e (by simp [ndB, h]))]
    have hk : ∀ w, Known X env β y [] w ↔ Known X env' β' y [] w := fun w => Known.congr_iff (he _ (by simp [ndE])) (fun k hk => hb k (by simp [ndB, hk])) (fun e h => by simp at h) (fun b h => by simp at h)
    simp only [hk]
  | .eff op ty ps md y bl, he, hb => by
    simp only [Nd.den]
    rw [parts_congr (l := ps) (fun e h => he e (List.mem_cons_of_mem _ (List.mem_append_left _ h))) (fun b h => hb b (List.mem_append_left _ (List.mem_append_right _ h)))]
    have hk : ∀ w, Known X env β y bl w ↔ Known X env' β' y bl w := fun w => Known.congr_iff (he _ (by simp [ndE])) (fun k hk => hb k (List.mem_append_left _ (List.mem_append_left _ hk))) (fun e h => he e (List.mem_cons_of_mem _ (List.mem_append_right _ h))) (fun b h => hb b (List.mem_append_right _ h))
    simp only [hk]
  | .callW f l md y bl, he, hb => by
    simp only [Nd.den]
    rw [svs_congr (l := l) (fun e h => he e (List.mem_cons_of_mem _ (List.mem_append_left _ h))) (fun b h => hb b (List.mem_append_left _ (List.mem_append_right _ h)))]
    have hk : ∀ w, Known X env β y bl w ↔ Known X env' β' y bl w := fun w => Known.congr_iff (he _ (by simp [ndE])) (fun k hk => hb k (List.mem_append_left _ (List.mem_append_left _ hk))) (fun e h => he e (List.mem_cons_of_mem _ (List.mem_append_right _ h))) (fun b h => hb b (List.mem_append_right _ h))
    simp only [hk]
  | .callJ x m l md y bl, he, hb => by
    simp only [Nd.den]
    rw [svs_congr (l := l) (fun e h => he e (List.mem_cons_of_mem _ (List.mem_append_left _ (by simp only [List.flatMap_cons, List.mem_append]; exact .inr h)))) (fun b h => hb b (List.mem_append_left _ (List.mem_append_right _ (by simp only [List.flatMap_cons, List.mem_append]; exact .inr h)))),
      SV.den_congr (s := x) (fun e h => he e (List.mem_cons_of_mem _ (List.mem_append_left _ (by simp only [List.flatMap_cons, List.mem_append]; exact .inl h)))) (fun b h => hb b (List.mem_append_left _ (List.mem_append_right _ (by simp only [List.flatMap_cons, List.mem_append]; exact .inl h))))]
    have hk : ∀ w, Known X env β y bl w ↔ Known X env' β' y bl w := fun w => Known.congr_iff (he _ (by simp [ndE])) (fun k hk => hb k (List.mem_append_left _ (List.mem_append_left _ hk))) (fun e h => he e (List.mem_cons_of_mem _ (List.mem_append_right _ h))) (fun b h => hb b (List.mem_append_right _ h))
    simp only [hk]
  | .callV x l md y bl, he, hb => by
    simp only [Nd.den]
    rw [svs_congr (l := l) (fun e h => he e (List.mem_cons_of_mem _ (List.mem_append_left _ (by simp only [List.flatMap_cons, List.mem_append]; exact .inr h)))) (fun b h => hb b (List.mem_append_left _ (List.mem_append_right _ (by simp only [List.flatMap_cons, List.mem_append]; exact .inr h)))),
      SV.den_congr (s := x) (fun e h => he e (List.mem_cons_of_mem _ (List.mem_append_left _ (by simp only [List.flatMap_cons, List.mem_append]; exact .inl h)))) (fun b h => hb b (List.mem_append_left _ (List.mem_append_right _ (by simp only [List.flatMap_cons, List.mem_append]; exact .inl h))))]
    have hk : ∀ w, Known X env β y bl w ↔ Known X env' β' y bl w := fun w => Known.congr_iff (he _ (by simp [ndE])) (fun k hk => hb k (List.mem_append_left _ (List.mem_append_left _ hk))) (fun e h => he e (List.mem_cons_of_mem _ (List.mem_append_right _ h))) (fun b h => hb b (List.mem_append_right _ h))
    simp only [hk]
  | .plain .., he, hb => by simp only [Nd.den]; rw [At.den_congr he hb]
  | .iad t x i, he, hb | .idx t x i, he, hb => by
    simp only [Nd.den]; rw [SV.den_congr (s := x) (fun e h => he e (by simp [ndE, h])) (fun e h => hb e (by simp [ndB, h])), SV.den_congr (s := i) (fun e h => he e (by simp [ndE, h])) (fun e h => hb e (by simp [ndB, h]))]
  | .slc t x lo hi mx, he, hb => by
    simp only [Nd.den]
    rw [SV.den_congr (s := x) (fun e h => he e (by simp [ndE, h])) (fun e h => hb e (by simp [ndB, h])),
      opt_congr (o := lo) (fun e h => he e (by simp [ndE, h])) (fun e h => hb e (by simp [ndB, h])),
      opt_congr (o := hi) (fun e h => he e (by simp [ndE, h])) (fun e h => hb e (by simp [ndB, h])),
      opt_congr (o := mx) (fun e h => he e (by simp [ndE, h])) (fun e h => hb e (by simp [ndB, h]))]
  | .bld t ps, he, hb => by simp only [Nd.den]; rw [parts_congr he hb]
  | .gen op ty ps, he, hb => by simp only [Nd.den]; rw [parts_congr he hb]
  | .pick c a b, he, hb => by
    simp only [Nd.den]
    rw [SV.den_congr (s := c) (fun e h => he e (by simp [ndE, h])) (fun e h => hb e (by simp [ndB, h])),
      SV.den_congr (s := a) (fun e h => he e (by simp [ndE, h])) (fun e h => hb e (by simp [ndB, h])),
      SV.den_congr (s := b) (fun e h => he e (by simp [ndE, h])) (fun e h => hb e (by simp [ndB, h]))]
  | .sel c p m ag, he, hb => by
    simp only [Nd.den]
    rw [Cont.den_congr (c := c) (fun e h => he e (by simp [ndE, h])) (fun e h => hb e (by simpa [ndB] using h)), Pos.den_congr (p := p) (fun e h => he e (by simp [ndE, h]))]
  | .upd c p m x, he, hb => by
    simp only [Nd.den]
    rw [Cont.den_congr (c := c) (fun e h => he e (by simp [ndE, h])) (fun e h => hb e (by simp [ndB, h])), Pos.den_congr (p := p) (fun e h => he e (by simp [ndE, h])),
      SV.den_congr (s := x) (fun e h => he e (by simp [ndE, h])) (fun e h => hb e (by simp [ndB, h]))]
  | .call f l, he, hb => by simp only [Nd.den]; rw [svs_congr he hb]
  | .dfr x l, he, hb => by simp only [Nd.den]
  | .callI x m l, he, hb => by
    simp only [Nd.den]
    rw [svs_congr (l := l) (fun e h => he e (List.mem_append_right _ h)) (fun b h => hb b (List.mem_append_right _ h)), SV.den_congr (s := x) (fun e h => he e (List.mem_append_left _ h)) (fun b h => hb b (List.mem_append_left _ h))]
  | .guard g n, he, hb => by
    simp only [Nd.den]
    have hsy : ∀ s, n.sync? = some s → env s = env' s := fun s hs => he s (by
      cases n <;> simp [Nd.sync?] at hs <;> (subst hs; simp [ndE]))
    have h2 : offW env v n.sync? ↔ offW env' v n.sync? := by
      cases hq : n.sync? with
      | none => exact Iff.rfl
      | some s => simp only [offW]; rw [hsy s hq]
    rw [conds_congr (g := g) (fun e h => he e (by simp [ndE, h])) (fun e h => hb e (by simp [ndB, h])),
      Nd.den_congr v (n := n) (fun e h => he e (by simp [ndE, h])) (fun e h => hb e (by simp [ndB, h])), h2]
theorem Nd.pre_congr {X : Ctx} : ∀ {n : Nd}, (∀ e ∈ ndE n, env e = env' e) → (∀ b ∈ ndB n, β b = β' b) →
    (n.pre X env β ↔ n.pre X env' β')
  | .call f l, he, hb => by simp only [Nd.pre]; rw [svs_congr he hb]
  | .dfr x l, he, hb => by
    simp only [Nd.pre]
    rw [svs_congr (l := l) (fun e h => he e (List.mem_append_right _ h)) (fun b h => hb b (List.mem_append_right _ h)), SV.den_congr (s := x) (fun e h => he e (List.mem_append_left _ h)) (fun b h => hb b (List.mem_append_left _ h))]
  | .callI x m l, he, hb => by
    simp only [Nd.pre]
    rw [svs_congr (l := l) (fun e h => he e (List.mem_append_right _ h)) (fun b h => hb b (List.mem_append_right _ h)), SV.den_congr (s := x) (fun e h => he e (List.mem_append_left _ h)) (fun b h => hb b (List.mem_append_left _ h))]
  | .guard g n, he, hb => by
    simp only [Nd.pre]
    rw [conds_congr (g := g) (fun e h => he e (by simp [ndE, h])) (fun e h => hb e (by simp [ndB, h])),
      Nd.pre_congr (n := n) (fun e h => he e (by simp [ndE, h])) (fun e h => hb e (by simp [ndB, h]))]
  | .eff op ty ps md y bl, he, hb => by
    simp only [Nd.pre]
    rw [parts_congr (l := ps) (fun e h => he e (List.mem_cons_of_mem _ (List.mem_append_left _ h))) (fun b h => hb b (List.mem_append_left _ (List.mem_append_right _ h))), tr_congr (bl := bl) (fun b h => hb b (List.mem_append_right _ h))]
    have hk : ∀ w, Known X env β y bl w ↔ Known X env' β' y bl w := fun w => Known.congr_iff (he _ (by simp [ndE])) (fun k hk => hb k (List.mem_append_left _ (List.mem_append_left _ hk))) (fun e h => he e (List.mem_cons_of_mem _ (List.mem_append_right _ h))) (fun b h => hb b (List.mem_append_right _ h))
    simp only [hk]
  | .callW f l md y bl, he, hb => by
    simp only [Nd.pre]
    rw [svs_congr (l := l) (fun e h => he e (List.mem_cons_of_mem _ (List.mem_append_left _ h))) (fun b h => hb b (List.mem_append_left _ (List.mem_append_right _ h))), tr_congr (bl := bl) (fun b h => hb b (List.mem_append_right _ h))]
    have hk : ∀ w, Known X env β y bl w ↔ Known X env' β' y bl w := fun w => Known.congr_iff (he _ (by simp [ndE])) (fun k hk => hb k (List.mem_append_left _ (List.mem_append_left _ hk))) (fun e h => he e (List.mem_cons_of_mem _ (List.mem_append_right _ h))) (fun b h => hb b (List.mem_append_right _ h))
    simp only [hk]
  | .callJ x m l md y bl, he, hb => by
    simp only [Nd.pre]
    rw [svs_congr (l := l) (fun e h => he e (List.mem_cons_of_mem _ (List.mem_append_left _ (by simp only [List.flatMap_cons, List.mem_append]; exact .inr h)))) (fun b h => hb b (List.mem_append_left _ (List.mem_append_right _ (by simp only [List.flatMap_cons, List.mem_append]; exact .inr h)))),
      SV.den_congr (s := x) (fun e h => he e (List.mem_cons_of_mem _ (List.mem_append_left _ (by simp only [List.flatMap_cons, List.mem_append]; exact .inl h)))) (fun b h => hb b (List.mem_append_left _ (List.mem_append_right _ (by simp only [List.flatMap_cons, List.mem_append]; exact .inl h)))), tr_congr (bl := bl) (fun b h => hb b (List.mem_append_right _ h))]
    have hk : ∀ w, Known X env β y bl w ↔ Known X env' β' y bl w := fun w => Known.congr_iff (he _ (by simp [ndE])) (fun k hk => hb k (List.mem_append_left _ (List.mem_append_left _ hk))) (fun e h => he e (List.mem_cons_of_mem _ (List.mem_append_right _ h))) (fun b h => hb b (List.mem_append_right _ h))
    simp only [hk]
  | .callV x l md y bl, he, hb => by
    simp only [Nd.pre]
    rw [svs_congr (l := l) (fun e h => he e (List.mem_cons_of_mem _ (List.mem_append_left _ (by simp only [List.flatMap_cons, List.mem_append]; exact .inr h)))) (fun b h => hb b (List.mem_append_left _ (List.mem_append_right _ (by simp only [List.flatMap_cons, List.mem_append]; exact .inr h)))),
      SV.den_congr (s := x) (fun e h => he e (List.mem_cons_of_mem _ (List.mem_append_left _ (by simp only [List.flatMap_cons, List.mem_append]; exact .inl h)))) (fun b h => hb b (List.mem_append_left _ (List.mem_append_right _ (by simp only [List.flatMap_cons, List.mem_append]; exact .inl h)))), tr_congr (bl := bl) (fun b h => hb b (List.mem_append_right _ h))]
    have hk : ∀ w, Known X env β y bl w ↔ Known X env' β' y bl w := fun w => Known.congr_iff (he _ (by simp [ndE])) (fun k hk => hb k (List.mem_append_left _ (List.mem_append_left _ hk))) (fun e h => he e (List.mem_cons_of_mem _ (List.mem_append_right _ h))) (fun b h => hb b (List.mem_append_right _ h))
    simp only [hk]
  | .bin .., he, hb | .un .., he, hb | .conv .., he, hb | .ext .., he, hb | .fad .., he, hb | .fld .., he, hb | .len .., he, hb | .asAgg .., he, hb | .ix .., he, hb | .loadU .., he, hb | .plain .., he, hb
  | .iad .., he, hb | .idx .., he, hb | .slc .., he, hb | .bld .., he, hb | .gen .., he, hb | .pick .., he, hb | .sel .., he, hb | .upd .., he, hb => by
    simp only [Nd.pre]; exact exists_congr fun v => Nd.den_congr v he hb
end congr
/-! ### memory -/
structure Mem (X : Ctx) (y : Sy) (blocks : List (Option Blk)) (gl : List (Nat × Nat)) (env : Env) (β : Nat → Nat) (w : World) : Prop where
  blk : ∀ (k : Nat) (b : Blk), blocks[k]? = some (some b) → Holds w (β k) b env β ∧ (b.cont.den env β).size = b.n ∧ b.cont.ok env
  inh : ∀ (k : Nat) (b : Blk), blocks[k]? = some (some b) → β k < w.heap.size
  own : ∀ (k : Nat) (b : Blk), blocks[k]? = some (some b) → b.own = true → X.mine (β k)
  apart : ∀ (j k : Nat) (bj bk : Blk), j ≠ k → blocks[j]? = some (some bj) → blocks[k]? = some (some bk) → bj.own = true → β j ≠ β k
  glob : ∀ (g k : Nat), (g, k) ∈ gl → β k = g
  past : y.live = true → ∀ b, b < (env y.s).2.heap.size → b ∉ y.ow.map β → w.heap[b]? = (env y.s).2.heap[b]?
  wksz : (env y.s).2.heap.size ≤ w.heap.size
  keep : ∀ b, ¬ X.mine b → w.heap[b]? = X.w0.heap[b]?
  sz0 : X.w0.heap.size ≤ w.heap.size
  os : w.os = X.w0.os
  tape : w.tape = X.w0.tape
  output : w.output = X.w0.output
structure Sat (X : Ctx) (σ : St) (env : Env) (β : Nat → Nat) (a : Act) (w : World) : Prop where
  mem : Mem X σ.sy σ.blocks σ.gl env β w
  defers : ∀ d ∈ a.defers, NoOp X.P d
  size : a.tmps.size = σ.slots.length
  slot : ∀ (t : Nat) (sl : Slot), σ.slots[t]? = some sl → okSV sl.s = true →
    (conds env β sl.g → a.tmps[t]? = some (sl.s.den env β)) ∧ (¬ conds env β sl.g → a.tmps[t]? = some undef)
/-- What a callee by a contract over worlds leaves as it was. -/
structure KeepsM (md : Nat → Prop) (w w' : World) : Prop where
  os : w'.os = w.os
  tape : w'.tape = w.tape
  output : w'.output = w.output
  size : w.heap.size ≤ w'.heap.size
  block : ∀ b, b < w.heap.size → ¬ md b → w'.heap[b]? = w.heap[b]?
structure Good (X : Ctx) (A : Ann) : Prop where
  mixed : X.P.follows .mixedOrders = true
  stable : ∀ w, (∀ b, ¬ X.mine b → w.heap[b]? = X.w0.heap[b]?) → X.w0.heap.size ≤ w.heap.size → X.G w
  fresh : ∀ b, X.w0.heap.size ≤ b → X.mine b
  enters : ∀ f ∈ A.calls, ∀ args w, (callFunc f args).run X.P w = .ok (.enter f args) w
  calls : ∀ f args w, X.S.pre f args → X.G w → Calls X.P f args.toArray w fun e w' => ∃ v, e = .returned v ∧ X.S.post f args v ∧ Below w.heap.size w w'
  entersW : ∀ p ∈ A.callsW, ∀ args w, (callFunc p.1 args).run X.P w = .ok (.enter p.1 args) w
  callsW : ∀ f args w, X.S.preW f args w → X.G w → Calls X.P f args.toArray w fun e w' => ∃ v, e = .returned v ∧ X.S.postW f args w v w' ∧ KeepsM (X.S.modW f args w) w w'
theorem holds_cell {w : World} {k : Nat} {b : Blk} {env : Env} {β : Nat → Nat} (h : Holds w k b env β) {i : Nat} {v : Value} (hi : (b.cont.den env β)[i]? = some v) : w.cell? ⟨k, i, none⟩ = some v := by
  unfold Holds at h
  split at h
  · simp [World.cell?, h, hi]
  · exact h i v hi
theorem holds_of_block {w w' : World} {k : Nat} {b : Blk} {env : Env} {β : Nat → Nat} (h : Holds w k b env β) (he : w'.heap[k]? = w.heap[k]?) : Holds w' k b env β := by
  unfold Holds at *
  split
  · rename_i ho; simp only [ho, if_true] at h; rw [he]; exact h
  · rename_i ho
    simp only [ho] at h
    intro i v hi
    rw [World.cell?_of_block (w := w) he]
    exact h i v hi
end Go.Vc
