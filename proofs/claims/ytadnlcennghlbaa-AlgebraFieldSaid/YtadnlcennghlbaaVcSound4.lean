/-
  The engine is sound, part 4: one operation, whichever.
-/
import Derived.Test.YtadnlcennghlbaaVcSound3
namespace Go.Vc
open Go Go.RowKit
section
variable {X : Ctx} {σ : St} {env : Env} {β : Nat → Nat} {a : Act} {w : World} {g : List (At × Bool)}
/-! addresses -/
theorem underlying_run {t : TypeId} {d : TypeDesc} (h : X.P.underlying t = some d) (w : World) : (underlying t).run X.P w = .ok d w := run_underlying h w
theorem constNat_den {i : SV} {k : Nat} (h : constNat? i = some k) : ∃ kd, i.den env β = .int kd k := by
  unfold constNat? at h
  split at h
  · rename_i kd n
    split at h
    · rename_i h0
      cases h
      exact ⟨kd, by simp [SV.den, At.den]; omega⟩
    · cases h
  · cases h
theorem indexAddr_arr {t elem : TypeId} {len b o s : Nat} (hu : X.P.underlying t = some (.array len elem)) (hs : sz X.P elem = some s) {kd : IntKind} {n : Int} (h0 : 0 ≤ n) (h1 : n < (len : Int)) :
    (Instr.indexAt t (.pointer (some ⟨b, o, none⟩)) (.int kd n)).run X.P w = .ok (.pointer (some ⟨b, o + n.toNat * s, none⟩)) w := by
  simp [Instr.indexAt, asIntOf, underlying_run hu, Instr.sureAddr, h0, h1, run_sz hs, add_none]
theorem indexAddr_sl {t elem : TypeId} {len cap b o s : Nat} (hu : X.P.underlying t = some (.slice elem)) (hs : sz X.P elem = some s) {kd : IntKind} {n : Int} (h0 : 0 ≤ n) (h1 : n < (len : Int)) :
    (Instr.indexAt t (.slice (some ⟨b, o, none⟩) len cap) (.int kd n)).run X.P w = .ok (.pointer (some ⟨b, o + n.toNat * s, none⟩)) w := by
  simp [Instr.indexAt, asIntOf, underlying_run hu, h0, h1, run_sz hs, add_none]
theorem stepIndexAddr_sound {o : Oper} {t : TypeId} {xo io : Operand} (ho : o.op = .indexAddr t xo io) {x i : SV} (hx : a.eval xo = x.den env β) (hi : a.eval io = i.den env β)
    {r : Res} (h : stepIndexAddr X.P σ t x i = some r)
    (hp : PreChain X β r.nds env σ.ne) {K : Act → World → Prop} {Q : Exit → Act → World → Prop} (hK : After X σ env β a w o.dst r K) : o.wp X.P a w K Q := by
  have hrun : ∀ v, (Instr.indexAt t (x.den env β) (i.den env β)).run X.P w = .ok v w → (execOp a.eval o).run X.P w = .ok (.value v) w := fun v hv => by
    simp [execOp, ho, hx, hi, hv]
  have hiad : r = ⟨[.iad t x i], .val (.x (.v σ.ne))⟩ → o.wp X.P a w K Q := fun hr => by
    subst hr
    refine one_sound rfl hp (fun v hv => hrun _ ?_) hK
    simp only [SV.den, At.den, upd_same]
    exact hv w
  unfold stepIndexAddr at h
  split at h
  · rename_i len elem b o' hu
    cases hs : sz X.P elem with
    | none => simp [hs] at h
    | some s =>
    simp only [hs, Option.bind_eq_bind, Option.bind_some] at h
    split at h
    · rename_i k hk
      split at h
      · rename_i hlt
        cases h
        obtain ⟨kd, hd⟩ := constNat_den (env := env) (β := β) hk
        refine val_sound (hrun _ ?_) hK
        rw [hd]
        have := indexAddr_arr (X := X) (w := w) (b := β b) (o := o') (kd := kd) hu hs (n := (k : Int)) (by omega) (by omega)
        simpa [SV.den, At.den] using this
      · cases h
    · split at h
      · rename_i hk j
        cases h
        refine one_sound rfl hp (fun v hv => hrun _ ?_) hK
        obtain ⟨hv1, kd, n, hv2, hv3, hv4⟩ := hv
        rw [hv2] at hv1
        rw [hv2]
        have := indexAddr_arr (X := X) (w := w) (b := β b) (o := o') (kd := kd) hu hs hv3 hv4
        simpa [SV.den, At.den, upd_same, hv1, natOf, intNat] using this
      · cases h
  · rename_i elem b off len cap hu
    cases hs : sz X.P elem with
    | none => simp [hs] at h
    | some s =>
    simp only [hs, Option.bind_eq_bind, Option.bind_some] at h
    split at h
    · rename_i k hk
      split at h
      · rename_i hlt
        cases h
        obtain ⟨kd, hd⟩ := constNat_den (env := env) (β := β) hk
        refine val_sound (hrun _ ?_) hK
        rw [hd]
        have := indexAddr_sl (X := X) (w := w) (b := β b) (o := off) (kd := kd) (cap := cap) (len := len) hu hs (n := (k : Int)) (by omega) (by omega)
        simpa [SV.den, At.den] using this
      · cases h
    · split at h
      · rename_i hk j
        cases h
        refine one_sound rfl hp (fun v hv => hrun _ ?_) hK
        obtain ⟨hv1, kd, n, hv2, hv3, hv4⟩ := hv
        rw [hv2] at hv1
        rw [hv2]
        have := indexAddr_sl (X := X) (w := w) (b := β b) (o := off) (kd := kd) (cap := cap) (len := len) hu hs hv3 hv4
        simpa [SV.den, At.den, upd_same, hv1, natOf, intNat] using this
      · cases h
  · cases h; exact hiad rfl
  · cases h; exact hiad rfl
  · cases h
theorem stepFieldAddr_sound {o : Oper} {t : TypeId} {xo : Operand} {f : Nat} (ho : o.op = .fieldAddr t xo f) {x : SV} (hx : a.eval xo = x.den env β)
    {r : Res} (h : stepFieldAddr X.P σ t x f = some r)
    (hp : PreChain X β r.nds env σ.ne) {K : Act → World → Prop} {Q : Exit → Act → World → Prop} (hK : After X σ env β a w o.dst r K) : o.wp X.P a w K Q := by
  have hrun : ∀ v, (Instr.fieldAt t (x.den env β) f).run X.P w = .ok v w → (execOp a.eval o).run X.P w = .ok (.value v) w := fun v hv => by
    simp [execOp, ho, hx, hv]
  have hfad : r = ⟨[.fad t x f], .val (.x (.v σ.ne))⟩ → o.wp X.P a w K Q := fun hr => by
    subst hr
    refine one_sound rfl hp (fun v hv => hrun _ ?_) hK
    simp only [SV.den, At.den, upd_same]
    exact hv w
  have hplace : ∀ (b o' : Nat) (fs : Array Field) (fd : Field) (s : Nat), X.P.underlying t = some (.struct fs) → fs[f]? = some fd → sz X.P fd.type = some s → s ≠ 0 →
      (Instr.fieldAt t (.pointer (some ⟨b, o', none⟩)) f).run X.P w = .ok (.pointer (some ⟨b, o' + fd.offset, none⟩)) w := fun b o' fs fd s hu hfd hs h0 => by
    simp [Instr.fieldAt, underlying_run hu, hfd, Instr.sureAddr, fieldPlace, run_sz hs, h0, add_none]
  unfold stepFieldAddr at h
  split at h
  · rename_i b o'
    cases hu : X.P.underlying t with
    | none => simp [hu] at h
    | some d =>
    cases d <;> simp only [hu, Option.bind_eq_bind] at h <;> try (cases h; done)
    rename_i fs
    cases hfd : fs[f]? with
    | none => simp [hfd] at h
    | some fd =>
    cases hs : sz X.P fd.type with
    | none => simp [hfd, hs] at h
    | some s =>
    simp only [hfd, hs, Option.bind_some] at h
    split at h
    · cases h
    · rename_i h0
      cases h
      refine val_sound (hrun _ ?_) hK
      simpa only [SV.den, At.den] using hplace (β b) o' fs fd s hu hfd hs h0
  · rename_i b base stride i
    cases hu : X.P.underlying t with
    | none => simp [hu] at h
    | some d =>
    cases d <;> simp only [hu, Option.bind_eq_bind] at h <;> try (cases h; done)
    rename_i fs
    cases hfd : fs[f]? with
    | none => simp [hfd] at h
    | some fd =>
    cases hs : sz X.P fd.type with
    | none => simp [hfd, hs] at h
    | some s =>
    simp only [hfd, hs, Option.bind_some] at h
    split at h
    · cases h
    · rename_i h0
      cases h
      refine val_sound (hrun _ ?_) hK
      have := hplace (β b) (base + natOf (env i) * stride) fs fd s hu hfd hs h0
      simp only [SV.den, At.den]
      rw [this, show base + natOf (env i) * stride + fd.offset = base + fd.offset + natOf (env i) * stride from by omega]
  · cases h; exact hfad rfl
  · cases h; exact hfad rfl
  · cases h
/-! new blocks and aggregates -/
theorem zeroAts_sound {t : TypeId} {z : List At} (h : zeroAts X.P t = some z) : ∃ v, (X.P.info? t).bind (·.zero) = some v ∧ z.map (At.den env β) = v.cells.toList := by
  unfold zeroAts at h
  split at h
  · rename_i v hv
    cases h
    exact ⟨v, hv, by rw [List.map_map]; exact List.map_id' v.cells.toList⟩
  · cases h
theorem sels_kind {ne : Nat} : ∀ (n k : Nat) (nd : Nd), nd ∈ selsFrom ne k n → nd.pl = true
  | 0, k, nd, h => by simp [selsFrom] at h
  | n + 1, k, nd, h => by
    simp only [selsFrom, List.mem_cons] at h
    rcases h with rfl | h
    · exact rfl
    · exact sels_kind n _ nd h
theorem plain_kind : ∀ (l : List At) (ne : Nat) (nd : Nd), nd ∈ (plainAts ne l).1 → nd.pl = true
  | [], ne, nd, h => by simp [plainAts] at h
  | at_ :: l, ne, nd, h => by
    cases at_ <;> simp only [plainAts, List.mem_cons] at h <;> first
      | exact plain_kind l _ nd h
      | (rcases h with rfl | h
         · exact rfl
         · exact plain_kind l _ nd h)
theorem vars_len : ∀ (n k : Nat), (varsFrom k n).length = n
  | 0, _ => rfl
  | n + 1, k => by simp [varsFrom, vars_len n]
theorem vars_lt : ∀ (n k : Nat) (x : At), x ∈ varsFrom k n → ∀ e ∈ atE x, e < k + n
  | 0, _, x, h => by simp [varsFrom] at h
  | n + 1, k, x, h => by
    simp only [varsFrom, List.mem_cons] at h
    rcases h with rfl | h
    · intro e he; simp [atE] at he; omega
    · intro e he; have := vars_lt n (k + 1) x h e he; omega
theorem sels_len (e : Nat) : ∀ (n k : Nat), (selsFrom e k n).length = n
  | 0, _ => rfl
  | n + 1, k => by simp [selsFrom, sels_len e n]
theorem plain_lt : ∀ (l : List At) (ne : Nat) (m : Nat), (∀ x ∈ l, ∀ e ∈ atE x, e < m) → m ≤ ne → ∀ x ∈ (plainAts ne l).2, ∀ e ∈ atE x, e < ne + (plainAts ne l).1.length
  | [], ne, m, _, _, x, h => by simp [plainAts] at h
  | at_ :: l, ne, m, hm, hle, x, h => by
    intro e he
    have h2 : ∀ x ∈ l, ∀ e ∈ atE x, e < m := fun x hx => hm x (by simp [hx])
    cases at_ <;> simp only [plainAts, List.mem_cons, List.length_cons] at h ⊢
    case v i =>
      rcases h with rfl | h
      · simp [atE] at he; omega
      · have := plain_lt l (ne + 1) m h2 (by omega) x h e he; omega
    all_goals
      rcases h with rfl | h
      · have := hm _ (List.mem_cons_self ..) e he; omega
      · exact plain_lt l ne m h2 hle x h e he
theorem plain_len : ∀ (l : List At) (ne : Nat), (plainAts ne l).2.length = l.length
  | [], ne => rfl
  | at_ :: l, ne => by cases at_ <;> simp [plainAts, plain_len l]
/-- The nodes of 'expand', and what its atoms denote. -/
theorem expand_sound {ne n : Nat} {ag : Bool} {s : SV} {ns : List Nd} {l : List At} (h : expand ne n ag s = some (ns, l)) :
    (∀ nd ∈ ns, nd.pl = true) ∧ l.length = n ∧
    ∀ (env : Env) (vs : List Val), (∀ e ∈ svE s, e < ne) → Chain X β ns env ne vs →
      (s.den env β).cells.toList = l.map (At.den (updl env ne vs) β) ∧ ∀ x ∈ l, ∀ e ∈ atE x, e < ne + ns.length := by
  unfold expand at h
  split at h
  · rename_i as
    split at h
    · rename_i hc
      simp only [Bool.and_eq_true, beq_iff_eq] at hc
      cases h
      refine ⟨fun nd h => (by cases h), hc.2, fun env vs hE hv => ?_⟩
      simp only [Chain] at hv
      subst hv
      exact ⟨by simp [SV.den, Value.cells, updl], fun x hx e he => by simpa using hE e (List.mem_flatMap.2 ⟨x, hx, he⟩)⟩
    · cases h
  · rename_i at_
    split at h
    · rename_i hag
      split at h
      · rename_i hn16
        cases h
        refine ⟨fun nd h => ?_, vars_len _ _, fun env vs hE hv => ?_⟩
        · simp only [List.mem_cons] at h
          rcases h with rfl | h
          · exact rfl
          · exact sels_kind _ _ _ h
        · cases vs with
          | nil => exact hv.elim
          | cons v vs =>
            obtain ⟨⟨hv1, arr, hv2, hv3, hv4⟩, hvs⟩ := hv
            have hvarr : aggArr (upd env ne v ne).1 = arr := by rw [upd_same, hv1, hv2]; rfl
            have hq := sels_sound X ne arr n 0 (ne + 1) (upd env ne v) vs (by omega) hvarr hvs (.inl (by omega))
            refine ⟨?_, fun x hx e he => ?_⟩
            · rw [updl, hq, hv2, List.drop_zero, List.take_of_length_le (by rw [Array.length_toList]; omega)]
              rfl
            · have := vars_lt _ _ x hx e he
              simp only [List.length_cons, sels_len]; omega
      · cases h
    · rename_i hag
      split at h
      · rename_i hn1
        simp only [Bool.and_eq_true, beq_iff_eq] at hn1
        simp only [Option.some.injEq] at h
        have e1 : ns = (plainAts ne [at_]).1 := by rw [h]
        have e2 : l = (plainAts ne [at_]).2 := by rw [h]
        subst e1 e2
        refine ⟨fun nd h => plain_kind _ _ nd h, by rw [plain_len]; exact hn1.1.symm, fun env vs hE hv => ?_⟩
        have hlt : ∀ x ∈ [at_], ∀ e ∈ atE x, e < ne := fun x hx e he => by simp at hx; subst hx; exact hE e he
        obtain ⟨h1, h2⟩ := plainAts_sound X [at_] ne env vs hlt (by simpa using hn1.2) hv
        refine ⟨?_, fun x hx e he => plain_lt [at_] ne ne hlt (Nat.le_refl _) x hx e he⟩
        rw [h1]
        have := h2 (at_.den env β) (by simp)
        simp only [SV.den, List.map_cons, List.map_nil]
        cases hd : at_.den env β <;> simp [Value.cells]
        rw [hd] at this; simp [Value.oneCell'] at this
      · cases h
  · cases h
theorem fill_cells (cells : Array Value) (off : Nat) (vs : List Value) : ∀ (k : Nat), off + k + vs.length ≤ cells.size →
    (vs.zipIdx k).foldl (fun cs (p : Value × Nat) => cs.setIfInBounds (off + p.2) p.1) cells = splice cells (off + k) vs := by
  induction vs generalizing cells with
  | nil => intro k h; apply Array.ext'; simp [splice]
  | cons v vs ih =>
    intro k h
    simp only [List.length_cons] at h
    simp only [List.zipIdx_cons, List.foldl_cons]
    rw [ih _ (k + 1) (by simp; omega)]
    apply Array.ext'
    apply List.ext_getElem?
    intro j
    simp only [splice, Array.toList_setIfInBounds, List.length_cons, List.append_assoc, List.cons_append]
    have l1 : (List.take (off + (k + 1)) (cells.toList.set (off + k) v)).length = off + k + 1 := by simp; omega
    have l2 : (List.take (off + k) cells.toList).length = off + k := by simp; omega
    rw [List.getElem?_append, List.getElem?_append, List.getElem?_append (l₁ := List.take (off + k) cells.toList), l1, l2]
    by_cases h1 : j < off + k
    · rw [if_pos (by omega), if_pos h1, List.getElem?_take_of_lt (by omega), List.getElem?_take_of_lt h1, List.getElem?_set_ne (by omega)]
    · rw [if_neg h1]
      by_cases h2 : j = off + k
      · subst h2
        rw [if_pos (by omega), List.getElem?_take_of_lt (by omega), Nat.sub_self, List.getElem?_cons_zero, List.getElem?_set_self (by simp; omega)]
      · rw [if_neg (by omega), show j - (off + k) = (j - (off + k + 1)) + 1 from by omega, List.getElem?_cons_succ, List.getElem?_append]
        by_cases h3 : j - (off + k + 1) < vs.length
        · rw [if_pos h3, if_pos h3]
        · rw [if_neg h3, if_neg h3, List.getElem?_drop, List.getElem?_drop, List.getElem?_set_ne (by omega)]
          congr 1
          omega
theorem placeOf_struct {t : TypeId} {fs : Array Field} (hu : X.P.underlying t = some (.struct fs)) {i off n : Nat} {ag : Bool} (h : placeOf X.P t i = some (off, n, ag)) :
    ∃ f, fs[i]? = some f ∧ f.offset = off ∧ sz X.P f.type = some n := by
  unfold placeOf at h
  simp only [hu, Option.bind_eq_bind] at h
  cases hf : fs[i]? with
  | none => simp [hf] at h
  | some f =>
  cases hs : sz X.P f.type with
  | none => simp [hf, hs] at h
  | some s =>
  cases ha : agg? X.P f.type with
  | none => simp [hf, hs, ha] at h
  | some b => simp [hf, hs, ha] at h; exact ⟨f, rfl, h.1, by rw [hs, h.2.1]⟩
theorem placeOf_array {t e : TypeId} {m : Nat} (hu : X.P.underlying t = some (.array m e)) {i off n : Nat} {ag : Bool} (h : placeOf X.P t i = some (off, n, ag)) :
    off = i * n ∧ sz X.P e = some n := by
  unfold placeOf at h
  simp only [hu, Option.bind_eq_bind] at h
  cases hs : sz X.P e with
  | none => simp [hs] at h
  | some s =>
  cases ha : agg? X.P e with
  | none => simp [hs, ha] at h
  | some b => simp [hs, ha] at h; obtain ⟨h1, h2, h3⟩ := h; subst h2; exact ⟨h1.symm, rfl⟩
theorem chain_split {X : Ctx} : ∀ (ns ms : List Nd) (env : Env) (ne : Nat) (vs : List Val), Chain X β (ns ++ ms) env ne vs →
    ∃ us ws, vs = us ++ ws ∧ Chain X β ns env ne us ∧ Chain X β ms (updl env ne us) (ne + ns.length) ws
  | [], ms, env, ne, vs, h => ⟨[], vs, rfl, rfl, h⟩
  | nd :: ns, ms, env, ne, [], h => h.elim
  | nd :: ns, ms, env, ne, v :: vs, h => by
    obtain ⟨us, ws, e, h1, h2⟩ := chain_split ns ms _ _ _ h.2
    refine ⟨v :: us, ws, by rw [e]; rfl, ⟨h.1, h1⟩, ?_⟩
    simp only [List.length_cons, updl]
    rw [show ne + (ns.length + 1) = ne + 1 + ns.length from by omega]
    exact h2
theorem buildParts_sound (place : Nat → Option (Nat × Nat)) {t : TypeId} (hplace : ∀ i off n ag, placeOf X.P t i = some (off, n, ag) → place i = some (off, n)) : ∀ (ps : List (Nat × SV)) (ne : Nat) (z : List At) (ns : List Nd) (z' : List At),
    buildParts X.P t ne ps z = some (ns, z') →
    (∀ nd ∈ ns, nd.pl = true) ∧
    ∀ (env : Env) (vs : List Val), (∀ p ∈ ps, ∀ e ∈ svE p.2, e < ne) → (∀ e ∈ z.flatMap atE, e < ne) → Chain X β ns env ne vs →
      Instr.fill place (z.map (At.den env β)).toArray (ps.map fun p => (p.1, p.2.den env β)) = some (z'.map (At.den (updl env ne vs) β)).toArray
  | [], ne, z, ns, z', h => by
    simp only [buildParts, Option.some.injEq, Prod.mk.injEq] at h
    obtain ⟨rfl, rfl⟩ := h
    refine ⟨fun _ h => (by cases h), fun env vs _ _ hv => ?_⟩
    simp only [Chain] at hv; subst hv
    rfl
  | (i, s) :: r, ne, z, ns, z', h => by
    simp only [buildParts, Option.bind_eq_bind] at h
    cases hpl : placeOf X.P t i with
    | none => simp [hpl] at h
    | some q =>
    obtain ⟨off, n, ag⟩ := q
    simp only [hpl, Option.bind_some] at h
    cases hex : expand ne n ag s with
    | none => simp [hex] at h
    | some q =>
    obtain ⟨n1, l⟩ := q
    simp only [hex, Option.bind_some] at h
    split at h
    · rename_i hc
      simp only [Bool.and_eq_true, decide_eq_true_eq] at hc
      cases hrec : buildParts X.P t (ne + n1.length) r (splA z off l) with
      | none => simp [hrec] at h
      | some q =>
      obtain ⟨ms, z2⟩ := q
      simp only [hrec, Option.bind_some, Option.some.injEq, Prod.mk.injEq] at h
      obtain ⟨rfl, rfl⟩ := h
      obtain ⟨hx1, hx0, hx2⟩ := expand_sound (X := X) (β := β) hex
      obtain ⟨hr1, hr2⟩ := buildParts_sound place hplace r _ _ _ _ hrec
      refine ⟨fun nd hnd => ?_, fun env vs hE hz hv => ?_⟩
      · rcases List.mem_append.1 hnd with h | h
        · exact hx1 nd h
        · exact hr1 nd h
      · obtain ⟨us, ws, rfl, hu, hw⟩ := chain_split _ _ _ _ _ hv
        obtain ⟨hcells, hlE⟩ := hx2 env us (hE (i, s) (by simp)) hu
        have hul := hu.length
        have hlen : (s.den env β).cells.size = n := by rw [← Array.length_toList, hcells]; simpa using hx0
        have hsv : ∀ (s' : SV), (∀ e ∈ svE s', e < ne) → s'.den (updl env ne us) β = s'.den env β := fun s' h => SV.den_congr (fun e he => updl_lt _ _ _ _ (h e he)) (fun _ _ => rfl)
        have hzz : z.map (At.den (updl env ne us) β) = z.map (At.den env β) := ats_congr (fun e he => updl_lt _ _ _ _ (hz e he)) (fun _ _ => rfl)
        have ih := hr2 (updl env ne us) ws (fun p hp e he => by have := hE p (by simp [hp]) e he; omega) (fun e he => by
            obtain ⟨x, hx, he⟩ := List.mem_flatMap.1 he
            simp only [splA, List.mem_append] at hx
            rcases hx with (hx | hx) | hx
            · have := hz e (List.mem_flatMap.2 ⟨x, List.mem_of_mem_take hx, he⟩); omega
            · exact hlE x hx e he
            · have := hz e (List.mem_flatMap.2 ⟨x, List.mem_of_mem_drop hx, he⟩); omega) hw
        have hps : (r.map fun p => (p.1, p.2.den (updl env ne us) β)) = r.map fun p => (p.1, p.2.den env β) :=
          List.map_congr_left fun p hp => by rw [hsv p.2 (hE p (by simp [hp]))]
        rw [splA_den, hzz, ← hcells, hps] at ih
        have hf := fill_cells (z.map (At.den env β)).toArray off (s.den env β).cells.toList 0 (by simp only [Array.length_toList, hlen, List.size_toArray, List.length_map]; omega)
        simp only [List.map_cons, Instr.fill, hplace i off n ag hpl]
        rw [if_neg (by simp only [hlen, List.size_toArray, List.length_map, ne_eq, not_true_eq_false, decide_false, Bool.false_or, decide_eq_true_eq]; omega)]
        rw [updl_append, hul, ← ih]
        congr 1
        rw [← Array.foldl_toList, Array.toList_zipIdx]
        simpa using hf
    · cases h
end
end Go.Vc
