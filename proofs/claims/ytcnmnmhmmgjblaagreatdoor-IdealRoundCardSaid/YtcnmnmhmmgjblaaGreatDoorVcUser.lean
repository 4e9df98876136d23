import Derived.Test.YtcnmnmhmmgjblaaGreatDoorVcDraw4
/-
  A drawn region with effects that do not wait for one another: it holds if it holds in both orders.
-/
namespace Go.Vc
open Go
/-- An order in which the operations may come up. -/
inductive Path (ops : Array Oper) : Array Bool → List Nat → Prop
  | nil {listed : Array Bool} : Region.ready .any ops listed = [] → Path ops listed []
  | cons {listed : Array Bool} {i : Nat} {l : List Nat} : i ∈ Region.ready .any ops listed → Path ops (listed.setIfInBounds i true) l → Path ops listed (i :: l)
section
variable {P : Program} {ops ops' : Array Oper} {Q : Exit → Act → World → Prop}
theorem path_wp : ∀ (L : List Nat) (fuel : Nat) (listed : Array Bool) (a : Act) (w : World), wpAny P .any ops Q fuel listed a w → Path ops listed L → wpOps P ops Q L a w
  | [], 0, _, _, _, h, _ => h.2
  | [], _ + 1, _, _, _, h, hp => by cases hp with | nil hr => exact h.1 hr
  | i :: L, 0, _, _, _, h, hp => by
    cases hp with
    | cons hi _ => rw [h.1] at hi; cases hi
  | i :: L, fuel + 1, listed, a, w, h, hp => by
    cases hp with
    | cons hi hp =>
      rw [wpOps_cons]
      exact wpOp_mono (fun a' w' h' => path_wp L fuel _ a' w' h' hp) (h.2 i hi)
theorem getD_set (l : Array Bool) (i x : Nat) (d : Bool) : (l.setIfInBounds i true).getD x d = if x = i ∧ i < l.size then true else l.getD x d := by
  rw [Array.getD_eq_getD_getElem?, Array.getD_eq_getD_getElem?, Array.getElem?_setIfInBounds]
  by_cases h : i = x
  · subst h
    by_cases h2 : i < l.size
    · simp [h2]
    · simp [h2]
  · simp [h, Ne.symm h]
theorem ready_lt {listed : Array Bool} {i : Nat} (h : i ∈ Region.ready .any ops listed) (hsz : listed.size = ops.size) : i < listed.size := by
  obtain ⟨_, o, ho, _⟩ := mem_ready.1 h
  rw [hsz]; exact (Array.getElem?_eq_some_iff.1 ho).1
/-! ### one edge more -/
theorem add_get (j i k : Nat) : (addAfter ops j i)[k]? = (ops[k]?).map fun o => if k = j then { o with after := o.after.push ⟨i, .data⟩ } else o := by
  unfold addAfter
  rw [Array.getElem?_modify]
  by_cases h : j = k
  · subst h; simp
  · rw [if_neg h]
    cases ops[k]? with
    | none => rfl
    | some o => simp [Ne.symm h]
theorem add_size (j i : Nat) : (addAfter ops j i).size = ops.size := by simp [addAfter]
theorem add_ready {listed : Array Bool} {i j x : Nat} : x ∈ Region.ready .any (addAfter ops j i) listed ↔ x ∈ Region.ready .any ops listed ∧ (x = j → listed.getD i false = true) := by
  rw [mem_ready, mem_ready, add_get]
  cases ho : ops[x]? with
  | none => simp
  | some o =>
    by_cases hx : x = j
    · subst hx
      simp only [Option.map_some, if_pos, Option.some.injEq, exists_eq_left', forall_const]
      constructor
      · rintro ⟨h0, h⟩
        exact ⟨⟨h0, fun e he hb => h e (by simp [he]) hb⟩, h ⟨i, .data⟩ (by simp) rfl⟩
      · rintro ⟨⟨h0, h⟩, h1⟩
        refine ⟨h0, fun e he hb => ?_⟩
        rcases Array.mem_push.1 he with he | rfl
        · exact h e he hb
        · exact h1
    · simp [hx]
theorem path_done {i j : Nat} : ∀ (L : List Nat) (listed : Array Bool), listed.getD i false = true → Path ops listed L → Path (addAfter ops j i) listed L
  | [], _, _, .nil hr => .nil (List.eq_nil_iff_forall_not_mem.2 fun x hx => by have := (add_ready.1 hx).1; rw [hr] at this; cases this)
  | x :: L, listed, h, .cons hx hp => .cons (add_ready.2 ⟨hx, fun _ => h⟩) (path_done L _ (by rw [getD_set]; split <;> first | rfl | exact h) hp)
theorem path_split {i j : Nat} (hij : i ≠ j) : ∀ (L : List Nat) (listed : Array Bool), listed.size = ops.size → Path ops listed L → Path (addAfter ops j i) listed L ∨ Path (addAfter ops i j) listed L
  | [], _, _, .nil hr => .inl (.nil (List.eq_nil_iff_forall_not_mem.2 fun x hx => by have := (add_ready.1 hx).1; rw [hr] at this; cases this))
  | x :: L, listed, hsz, .cons hx hp => by
    have hlt := ready_lt hx hsz
    by_cases hi : x = i
    · subst hi
      exact .inl (.cons (add_ready.2 ⟨hx, fun h => absurd h hij⟩) (path_done L _ (by rw [getD_set, if_pos ⟨rfl, hlt⟩]) hp))
    · by_cases hj : x = j
      · subst hj
        exact .inr (.cons (add_ready.2 ⟨hx, fun h => absurd h hi⟩) (path_done L _ (by rw [getD_set, if_pos ⟨rfl, hlt⟩]) hp))
      · rcases path_split hij L _ (by simpa using hsz) hp with h | h
        · exact .inl (.cons (add_ready.2 ⟨hx, fun h => absurd h hj⟩) h)
        · exact .inr (.cons (add_ready.2 ⟨hx, fun h => absurd h hi⟩) h)
/-! ### the same operations under other numbers -/
/-- q tells each operation's number among the others. -/
def SameOps (q : Nat → Nat) (ops ops' : Array Oper) : Prop := ∀ (i : Nat) (o : Oper), ops[i]? = some o → ∃ o', ops'[q i]? = some o' ∧ o'.dst = o.dst ∧ o'.op = o.op ∧ o'.type = o.type ∧ o'.pos = o.pos ∧
  (match o.guard with | none => o'.guard = none | some (g, b) => o'.guard = some (q g, b) ∧ (ops'[q g]?).bind (·.dst) = (ops[g]?).bind (·.dst))
theorem execOp_same {ev : Operand → Value} {o o' : Oper} (h1 : o'.dst = o.dst) (h2 : o'.op = o.op) (h3 : o'.type = o.type) (h4 : o'.pos = o.pos) : execOp ev o' = execOp ev o := by
  obtain ⟨d, op, t, p, a, g⟩ := o
  obtain ⟨d', op', t', p', a', g'⟩ := o'
  simp only at h1 h2 h3 h4
  subst h1 h2 h3 h4
  cases op' <;> rfl
theorem wpOps_same {q : Nat → Nat} (hs : SameOps q ops ops') : ∀ (L : List Nat) (a : Act) (w : World), (∀ i ∈ L, i < ops.size) → wpOps P ops' Q (L.map q) a w → wpOps P ops Q L a w
  | [], _, _, _, h => h
  | i :: L, a, w, hL, h => by
    have ih := fun a w => wpOps_same hs L a w fun k hk => hL k (List.mem_cons_of_mem _ hk)
    obtain ⟨oi, hi⟩ : ∃ o, ops[i]? = some o := ⟨_, Array.getElem?_eq_getElem (hL i List.mem_cons_self)⟩
    obtain ⟨o', ho', e1, e2, e3, e4, eg⟩ := hs i _ hi
    have hw : Region.wanted o' (yielded ops' a.tmps) = Region.wanted oi (yielded ops a.tmps) := by
      unfold Region.wanted
      revert eg
      cases oi.guard with
      | none => intro eg; rw [eg]
      | some gb =>
        obtain ⟨g, b⟩ := gb
        intro eg
        rw [eg.1]
        simp only [yielded, eg.2]
    have hx : ∀ ev, execOp ev o' = execOp ev oi := fun ev => execOp_same e1 e2 e3 e4
    rw [List.map_cons] at h
    simp only [wpOps, ho', hi] at h ⊢
    rw [hw] at h
    split
    · rename_i hwt
      rw [if_pos hwt] at h
      rcases h with h | ⟨h1, h2⟩
      · refine .inl ?_
        unfold Oper.wp at h ⊢
        rw [hx] at h
        generalize (execOp a.eval oi).run P w = res at h ⊢
        cases res with
        | ok n w' =>
          cases n with
          | value v => simp only [Oper.upon] at h ⊢; rw [e1] at h; exact ih _ _ h
          | skip => simp only [Oper.upon] at h ⊢; rw [e1] at h; exact ih _ _ h
          | defer d => simp only [Oper.upon] at h ⊢; rw [e1] at h; exact ih _ _ h
          | enter f args =>
            simp only [Oper.upon] at h ⊢
            refine h.mono fun e w'' h => ?_
            cases e with
            | returned v => simp only at h ⊢; rw [e1] at h; exact ih _ _ h
            | panicked c => exact h
            | outgrown => exact h
          | row r args => simp only [Oper.upon] at h ⊢; exact h.mono fun v w'' h => by rw [e1] at h; exact ih _ _ h
          | _ => exact h
        | halt s w' => cases s <;> exact h
      · refine .inr ⟨?_, h2⟩
        unfold Oper.asks at h1 ⊢
        rw [hx] at h1
        exact h1
    · rename_i hwt
      rw [if_neg hwt] at h
      rw [e1] at h
      exact ih _ _ h
theorem same_add (j i : Nat) : SameOps id ops (addAfter ops j i) := fun k o ho => by
  refine ⟨if k = j then { o with after := o.after.push ⟨i, .data⟩ } else o, by rw [id, add_get, ho]; rfl, ?_⟩
  have hg : ∀ g : Nat, ((addAfter ops j i)[g]?).bind (fun o : Oper => o.dst) = (ops[g]?).bind (fun o : Oper => o.dst) := fun g => by
    rw [add_get]
    cases ops[g]? with
    | none => rfl
    | some o => simp only [Option.map_some, Option.bind_some]; split <;> rfl
  split
  · refine ⟨rfl, rfl, rfl, rfl, ?_⟩
    cases h : o.guard with
    | none => simp
    | some gb => simp [hg]
  · refine ⟨rfl, rfl, rfl, rfl, ?_⟩
    cases h : o.guard with
    | none => simp
    | some gb => simp [hg]
/-! ### another order of the same operations -/
structure OkP (p : List Nat) (n : Nat) : Prop where
  len : p.length = n
  get_lt : ∀ i, i < n → p.getD i 0 < n
  inv_lt : ∀ i, i < n → invP p i < n
  inv_get : ∀ i, i < n → invP p (p.getD i 0) = i
  get_inv : ∀ i, i < n → p.getD (invP p i) 0 = i
theorem okP_of {p : List Nat} {n : Nat} (h : okPerm p n = true) : OkP p n := by
  simp only [okPerm, Bool.and_eq_true, beq_iff_eq, List.all_eq_true, decide_eq_true_eq, List.mem_range] at h
  exact ⟨h.1, fun i hi => (h.2 i hi).1.1.1, fun i hi => (h.2 i hi).1.1.2, fun i hi => (h.2 i hi).1.2, fun i hi => (h.2 i hi).2⟩
theorem perm_size {p : List Nat} : (permOps p ops).size = p.length := by simp [permOps]
theorem perm_get {p : List Nat} {n : Nat} (hp : OkP p n) (hn : ops.size = n) {i : Nat} {o : Oper} (h : ops[i]? = some o) : (permOps p ops)[invP p i]? = some (renOp p o) := by
  have hi : i < n := by rw [← hn]; exact (Array.getElem?_eq_some_iff.1 h).1
  have h1 := hp.inv_lt i hi
  have h2 := hp.get_inv i hi
  unfold permOps
  simp only [List.getElem?_toArray, List.getElem?_map]
  rw [List.getD_eq_getElem?_getD, List.getElem?_eq_getElem (by rw [hp.len]; exact h1)] at h2
  simp only [Option.getD_some] at h2
  rw [List.getElem?_eq_getElem (by rw [hp.len]; exact h1), h2]
  simp [Array.getD_eq_getD_getElem?, h]
theorem same_perm {p : List Nat} {n : Nat} (hp : OkP p n) (hn : ops.size = n) : SameOps (invP p) ops (permOps p ops) := fun i o ho => by
  refine ⟨renOp p o, perm_get hp hn ho, rfl, rfl, rfl, rfl, ?_⟩
  cases h : o.guard with
  | none => simp [renOp, h]
  | some gb =>
    obtain ⟨g, b⟩ := gb
    refine ⟨by simp [renOp, h], ?_⟩
    cases hg : ops[g]? with
    | some og => rw [perm_get hp hn hg]; rfl
    | none =>
      have hge : n ≤ g := by rw [← hn]; exact Array.getElem?_eq_none_iff.1 hg
      have : invP p g = g := by unfold invP; rw [if_neg (by rw [hp.len]; omega)]
      rw [this, Array.getElem?_eq_none (by rw [perm_size, hp.len]; exact hge)]
theorem path_perm {p : List Nat} {n : Nat} (hp : OkP p n) (hn : ops.size = n) : ∀ (L : List Nat) (listed listed' : Array Bool), listed.size = n → listed'.size = n → (∀ i, i < n → listed'.getD (invP p i) false = listed.getD i false) →
    Path ops listed L → Path (permOps p ops) listed' (L.map (invP p))
  | L, listed, listed', hs, hs', he, hpath => by
    have hdef : ∀ (l : Array Bool) x, l.size = n → x < n → l.getD x true = l.getD x false := fun l x hl hx => by
      rw [Array.getD_eq_getD_getElem?, Array.getD_eq_getD_getElem?, Array.getElem?_eq_getElem (by omega)]; rfl
    have hout : ∀ (l : Array Bool) x, l.size = n → n ≤ x → l.getD x false = false := fun l x hl hx => by
      rw [Array.getD_eq_getD_getElem?, Array.getElem?_eq_none (by omega)]; rfl
    have hall : ∀ x, listed'.getD (invP p x) false = listed.getD x false := fun x => by
      rcases Nat.lt_or_ge x n with h | h
      · exact he x h
      · have : invP p x = x := by unfold invP; rw [if_neg (by rw [hp.len]; omega)]
        rw [this, hout _ _ hs h, hout _ _ hs' h]
    have hmem : ∀ i, i < n → (invP p i ∈ Region.ready .any (permOps p ops) listed' ↔ i ∈ Region.ready .any ops listed) := fun i hi => by
      rw [mem_ready, mem_ready]
      have hio : ops[i]? = some ops[i] := Array.getElem?_eq_getElem (by omega)
      rw [perm_get hp hn hio, hio, hdef _ _ hs' (hp.inv_lt i hi), hdef _ _ hs hi, hall]
      simp only [Option.some.injEq, exists_eq_left', renOp, Array.mem_map, forall_exists_index, and_imp, forall_apply_eq_imp_iff₂]
      constructor
      · rintro ⟨h0, h⟩
        exact ⟨h0, fun e he hb => by rw [← hall]; exact h e he hb⟩
      · rintro ⟨h0, h⟩
        exact ⟨h0, fun e he hb => by rw [hall]; exact h e he hb⟩
    cases hpath with
    | nil hr =>
      refine .nil (List.eq_nil_iff_forall_not_mem.2 fun k hk => ?_)
      have hkn : k < n := by have := ready_lt hk (by rw [hs', perm_size, hp.len]); omega
      have h1 := hp.inv_get k hkn
      rw [← h1] at hk
      have := (hmem _ (hp.get_lt k hkn)).1 hk
      rw [hr] at this; cases this
    | cons hi hpath =>
      rename_i i L
      have hin : i < n := by have := ready_lt hi (by rw [hs, hn]); omega
      refine .cons ((hmem i hin).2 hi) (path_perm hp hn L _ _ (by simpa using hs) (by simpa using hs') (fun x hx => ?_) hpath)
      rw [getD_set, getD_set, hs, hs', he x hx]
      have : (invP p x = invP p i ∧ invP p i < n) ↔ (x = i ∧ i < n) := by
        constructor
        · rintro ⟨h1, _⟩
          refine ⟨?_, hin⟩
          rw [← hp.get_inv x hx, h1, hp.get_inv i hin]
        · rintro ⟨rfl, _⟩
          exact ⟨rfl, hp.inv_lt _ hin⟩
      simp only [this]
/-! ### the region -/
theorem path_mem : ∀ (L : List Nat) (listed : Array Bool), listed.size = ops.size → Path ops listed L → ∀ i ∈ L, i < ops.size
  | [], _, _, _, _, h => by cases h
  | x :: L, listed, hsz, .cons hx hp, i, hi => by
    rcases List.mem_cons.1 hi with rfl | hi
    · have := ready_lt hx hsz; omega
    · exact path_mem L _ (by simpa using hsz) hp i hi
/-- In whatever order. -/
def AllOrd (P : Program) (ops : Array Oper) (Q : Exit → Act → World → Prop) (a : Act) (w : World) : Prop := ∀ L, Path ops (Array.replicate ops.size false) L → wpOps P ops Q L a w
theorem allOrd_any {a : Act} {w : World} (h : wpAny P .any ops Q ops.size (Array.replicate ops.size false) a w) : AllOrd P ops Q a w := fun L hL => path_wp L _ _ a w h hL
theorem allOrd_perm {p : List Nat} {a : Act} {w : World} (hp : OkP p ops.size) (h : AllOrd P (permOps p ops) Q a w) : AllOrd P ops Q a w := fun L hL =>
  wpOps_same (same_perm hp rfl) L a w (path_mem L _ (by simp) hL) (h _ (path_perm hp rfl L _ _ (by simp) (by simp [perm_size, hp.len]) (fun i hi => by
    have h1 := hp.inv_lt i hi
    simp [Array.getD_eq_getD_getElem?, perm_size, hp.len, hi, h1]) hL))
theorem allOrd_both {i j : Nat} (hij : i ≠ j) {a : Act} {w : World} (h1 : AllOrd P (addAfter ops j i) Q a w) (h2 : AllOrd P (addAfter ops i j) Q a w) : AllOrd P ops Q a w := fun L hL => by
  have hm := path_mem L _ (by simp) hL
  have e : L.map id = L := List.map_id L
  rcases path_split hij L _ (by simp) hL with h | h
  · refine wpOps_same (same_add j i) L a w hm ?_
    rw [e]; exact h1 L (by rw [add_size]; exact h)
  · refine wpOps_same (same_add i j) L a w hm ?_
    rw [e]; exact h2 L (by rw [add_size]; exact h)
theorem path_lin : ∀ (fuel t : Nat) (listed : Array Bool), listed.size = ops.size → (listed.toList.filter (! ·)).length ≤ fuel → Path ops listed (Region.linearise.go .any ops fuel t listed [])
  | 0, t, listed, hsz, hfu => .nil (List.eq_nil_iff_forall_not_mem.2 fun i hi => by
    obtain ⟨h0, o, ho, _⟩ := mem_ready.1 hi
    have hlt : i < listed.size := by rw [hsz]; exact (Array.getElem?_eq_some_iff.1 ho).1
    have h1 : listed.toList.filter (! ·) = [] := List.eq_nil_of_length_eq_zero (by omega)
    rw [List.filter_eq_nil_iff] at h1
    have := h1 (listed[i]) (by simp)
    rw [Array.getD_eq_getD_getElem?, Array.getElem?_eq_getElem hlt] at h0
    simp at h0
    simp [h0] at this)
  | fuel + 1, t, listed, hsz, hfu => by
    simp only [Region.linearise.go]
    split
    · rename_i i hi
      rw [linearise_go_acc]
      have hmem : i ∈ Region.ready .any ops listed := List.mem_of_getElem? hi
      have hlt := ready_lt hmem hsz
      have hli : listed[i] = false := by
        have h0 := (mem_ready.1 hmem).1
        rw [Array.getD_eq_getD_getElem?, Array.getElem?_eq_getElem hlt] at h0
        simpa using h0
      refine .cons hmem (path_lin fuel _ _ (by simpa using hsz) ?_)
      have key : ∀ (l : List Bool) (i : Nat) (h : i < l.length), l[i] = false → ((l.set i true).filter (! ·)).length + 1 = (l.filter (! ·)).length := by
        intro l
        induction l with
        | nil => intro i h; simp at h
        | cons b l ih =>
          intro i h hb
          cases i with
          | zero => simp at hb; subst hb; simp
          | succ i =>
            simp only [List.set_cons_succ]
            have := ih i (by simpa using h) (by simpa using hb)
            cases b <;> simp <;> simpa using this
      have := key listed.toList i (by simpa using hlt) (by simpa using hli)
      rw [Array.setIfInBounds_def, dif_pos hlt]
      simp only [Array.toList_set]
      omega
    · rename_i hi
      refine .nil (List.eq_nil_iff_forall_not_mem.2 fun x hx => ?_)
      have hpos : 0 < (Region.ready .any ops listed).length := List.length_pos_of_mem hx
      have hn : (Region.ready .any ops listed)[t % (Region.ready .any ops listed).length]? = none := hi
      rw [List.getElem?_eq_none_iff] at hn
      have := Nat.mod_lt t hpos
      omega
theorem region_all {id : Nat} {a : Act} {w : World} (hm : P.follows .mixedOrders = true) (h : AllOrd P ops Q a { w with drawn := w.drawn + 1 }) : (Code.region id ops true).wp P Q a w :=
  wp_region_draw fun t => by
    simp only [Region.schedule, hm, Bool.true_or, if_true]
    exact h _ (path_lin ops.size t _ (by simp) (by simp))
end
section
variable {X : Ctx} {A : Ann} {σ : St} {env : Env} {β : Nat → Nat} {a : Act} {w : World} {ls : Nat → List Value → World → Prop}
theorem execDrawN_sound (G : Good X A) {Q : Exit → Act → World → Prop} {K : St → T} {K' : Act → World → Prop} (hwf : wf σ = true) (hs : Sat X σ env β a w) (hK : Cont' X σ env β ls K K') (hQ : ∀ a w, K' a w → Q .normal a w) :
    ∀ (n : Nat) (ops : Array Oper), (execDrawN X.P A n ops σ K).den X env σ.ne β σ.blocks.length ls → AllOrd X.P ops Q a { w with drawn := w.drawn + 1 }
  | 0, ops, hden => allOrd_any (execDraw1_sound G hwf hs hden hK hQ)
  | n + 1, ops, hden => by
    unfold execDrawN at hden
    split at hden
    · exact allOrd_any (execDraw1_sound G hwf hs hden hK hQ)
    · rename_i i j _
      simp only at hden
      split at hden
      · rename_i hc
        simp only [Bool.and_eq_true, decide_eq_true_eq] at hc
        obtain ⟨⟨⟨h1, h2⟩, h3⟩, h4⟩ := hc
        simp only [T.den] at hden
        refine allOrd_both (i := i) (j := j) (by omega) (execDrawN_sound G hwf hs hK hQ n _ hden.1) (allOrd_perm (okP_of (by rw [add_size]; exact h4)) (execDrawN_sound G hwf hs hK hQ n _ hden.2))
      · simp only [T.den] at hden
theorem execDraw_sound (G : Good X A) {ops : Array Oper} {id : Nat} {Q : Exit → Act → World → Prop} {K : St → T} {K' : Act → World → Prop} (hwf : wf σ = true) (hs : Sat X σ env β a w)
    (hden : (execDraw X.P A ops σ K).den X env σ.ne β σ.blocks.length ls) (hK : Cont' X σ env β ls K K') (hQ : ∀ a w, K' a w → Q .normal a w) : (Code.region id ops true).wp X.P Q a w :=
  region_all G.mixed (execDrawN_sound G hwf hs hK hQ 6 ops hden)
end
end Go.Vc

/-
  The engine is sound, part 9: code, loops, functions.
-/
namespace Go.Vc
open Go Go.RowKit
def toExit : Ex → Exit
  | .normal => .normal
  | .exit id => .exit id
  | .ret => .ret
/-- A loop under a relation that bears a datum; the datum's number goes down. -/
theorem wp_loop_data {P : Program} {c : Code} {Q : Exit → Act → World → Prop} {a : Act} {w : World} {ι : Type} (I : ι → Act → World → Prop) (μ : ι → Nat) (i0 : ι) (h0 : I i0 a w)
    (round : ∀ i a w, I i a w → c.wp P (Exit.then (fun a' w' => ∃ i', I i' a' w' ∧ μ i' < μ i) Q) a w) : (Code.loop c).wp P Q a w := by
  have least : ∀ (a : Act) (w : World), (∃ i, I i a w) → ∃ n, (∃ i, I i a w ∧ μ i = n) ∧ ∀ m, (∃ i, I i a w ∧ μ i = m) → n ≤ m := by
    intro a w ⟨i, hi⟩
    have key : ∀ n, (∃ i, I i a w ∧ μ i = n) → ∃ n, (∃ i, I i a w ∧ μ i = n) ∧ ∀ m, (∃ i, I i a w ∧ μ i = m) → n ≤ m := by
      intro n
      induction n using Nat.strongRecOn with
      | _ n ih =>
        intro hn
        by_cases hc : ∃ m, m < n ∧ ∃ i, I i a w ∧ μ i = m
        · obtain ⟨m, hm, hi⟩ := hc
          exact ih m hm hi
        · refine ⟨n, hn, fun m hm => ?_⟩
          rcases Nat.lt_or_ge m n with h | h
          · exact absurd ⟨m, h, hm⟩ hc
          · exact h
    exact key _ ⟨i, hi, rfl⟩
  classical
  let ν : Act → World → Nat := fun a w => if h : ∃ i, I i a w then Classical.choose (least a w h) else 0
  have hν : ∀ a w (h : ∃ i, I i a w), (∃ i, I i a w ∧ μ i = ν a w) ∧ ∀ m, (∃ i, I i a w ∧ μ i = m) → ν a w ≤ m := fun a w h => by
    have := Classical.choose_spec (least a w h)
    simp only [ν, dif_pos h]
    exact this
  refine wp_loop (fun a w => ∃ i, I i a w) ν ⟨i0, h0⟩ fun a w hI => ?_
  obtain ⟨⟨i, hi, hμ⟩, _⟩ := hν a w hI
  refine Code.wp_mono (fun e a' w' hq => ?_) (round i a w hi)
  cases e with
  | normal =>
    obtain ⟨i', hi', hlt⟩ := hq
    refine ⟨⟨i', hi'⟩, ?_⟩
    have := (hν a' w' ⟨i', hi'⟩).2 (μ i') ⟨i', hi', rfl⟩
    omega
  | _ => exact hq
/-- Rounds of a loop, m at most. -/
def roundsWp (P : Program) (c : Code) (Q : Exit → Act → World → Prop) : Nat → Act → World → Prop
  | 0, _, _ => False
  | m + 1, a, w => c.wp P (Exit.then (roundsWp P c Q m) Q) a w
theorem wp_loop_of_rounds {P : Program} {c : Code} {Q : Exit → Act → World → Prop} {a : Act} {w : World} {m : Nat} (h : roundsWp P c Q m a w) : (Code.loop c).wp P Q a w := by
  refine wp_loop_data (ι := Nat) (fun m a w => roundsWp P c Q m a w) id m h fun i a w hi => ?_
  cases i with
  | zero => exact hi.elim
  | succ i =>
    refine Code.wp_mono (fun e a' w' hq => ?_) hi
    cases e with
    | normal => exact ⟨i, hq, by simp⟩
    | _ => exact hq
section
variable {X : Ctx} {A : Ann}
theorem valSame_eq {u v : Value} (h : valSame u v = true) : u = v := by
  unfold valSame at h
  split at h <;> simp_all
  rename_i a b
  obtain ⟨a⟩ := a
  obtain ⟨b⟩ := b
  simpa using h
theorem atSame_eq {x y : At} (h : atSame x y = true) : x = y := by
  unfold atSame at h
  split at h <;> simp_all
  exact valSame_eq h
theorem atsSame_eq : ∀ {x y : List At}, atsSame x y = true → x = y
  | [], [], _ => rfl
  | a :: l, b :: m, h => by
    simp only [atsSame, Bool.and_eq_true] at h
    rw [atSame_eq h.1, atsSame_eq h.2]
  | [], _ :: _, h => by simp [atsSame] at h
  | _ :: _, [], h => by simp [atsSame] at h
theorem contSame_eq {x y : Cont} (h : contSame x y = true) : x = y := by
  unfold contSame at h
  split at h <;> simp_all
  exact atsSame_eq h
theorem svSame_eq {x y : SV} (h : svSame x y = true) : x = y := by
  unfold svSame at h
  split at h <;> simp_all
  · exact atSame_eq h
  · exact atsSame_eq h
/-- What the head's slots are, and what the values behind a round fit. -/
theorem allV_apply : ∀ {n : Nat} {f : List Value → Prop} {us : List Value}, us.length = n → allV n f → f us
  | 0, f, [], _, h => h
  | n + 1, f, u :: us, hl, h => allV_apply (n := n) (f := fun l => f (u :: l)) (by simpa using hl) (h u)
  | 0, f, _ :: _, hl, _ => by simp at hl
  | n + 1, f, [], hl, _ => by simp at hl
/-- Slots and variables of the head fit a frame. -/
def FitS (env : Env) (β : Nat → Nat) (a : Act) : List Slot → Nat → Prop
  | [], _ => True
  | sl :: r, t => (okSV sl.s = true → (conds env β sl.g → a.tmps[t]? = some (sl.s.den env β)) ∧ (¬ conds env β sl.g → a.tmps[t]? = some undef)) ∧ FitS env β a r (t + 1)
theorem fitS_of {env : Env} {β : Nat → Nat} {a : Act} : ∀ {l : List Slot} {t0 : Nat}, (∀ (t : Nat) (sl : Slot), l[t]? = some sl → okSV sl.s = true → (conds env β sl.g → a.tmps[t0 + t]? = some (sl.s.den env β)) ∧ (¬ conds env β sl.g → a.tmps[t0 + t]? = some undef)) → FitS env β a l t0
  | [], _, _ => trivial
  | sl :: r, t0, h => ⟨h 0 sl rfl, fitS_of fun t s hs => by have := h (t + 1) s (by simpa using hs); rwa [show t0 + 1 + t = t0 + (t + 1) from by omega]⟩
theorem fitS_to {env : Env} {β : Nat → Nat} {a : Act} : ∀ {l : List Slot} {t0 : Nat}, FitS env β a l t0 → ∀ (t : Nat) (sl : Slot), l[t]? = some sl → okSV sl.s = true → (conds env β sl.g → a.tmps[t0 + t]? = some (sl.s.den env β)) ∧ (¬ conds env β sl.g → a.tmps[t0 + t]? = some undef)
  | [], _, _, t, sl, hs => by simp at hs
  | s0 :: r, t0, h, t, sl, hs => by
    cases t with
    | zero => simp at hs; subst hs; exact h.1
    | succ t =>
      have := fitS_to h.2 t sl (by simpa using hs)
      rwa [show t0 + 1 + t = t0 + (t + 1) from by omega] at this
theorem headSlots_len (live ds : List Nat) : ∀ (l : List Slot) (ne t : Nat), (headSlots live ds ne l t).1.length = l.length ∧ ne + (headSlots live ds ne l t).2.1.length = (headSlots live ds ne l t).2.2
  | [], ne, t => by simp [headSlots]
  | s :: r, ne, t => by
    simp only [headSlots]
    split
    · split
      · have := headSlots_len live ds r (ne + 1) (t + 1)
        simp only [List.length_cons]; omega
      · have := headSlots_len live ds r ne (t + 1)
        simp only [List.length_cons]; omega
    · have := headSlots_len live ds r ne (t + 1)
      simp only [List.length_cons]; omega
theorem headBlocks_len (hv : List Nat) : ∀ (l : List (Option Blk)) (ne t : Nat), (headBlocks hv ne l t).1.length = l.length ∧ ne + (headBlocks hv ne l t).2.1.length = (headBlocks hv ne l t).2.2
  | [], ne, t => by simp [headBlocks]
  | s :: r, ne, t => by
    simp only [headBlocks]
    split
    · rename_i l n ty own _
      have := headBlocks_len hv r (ne + l.length) (t + 1)
      simp only [List.length_cons, List.length_append]; omega
    · have := headBlocks_len hv r (ne + 1) (t + 1)
      simp only [List.length_cons]; omega
    · have := headBlocks_len hv r ne (t + 1)
      simp only [List.length_cons]; omega
section
variable {env env' env'' : Env} {β β' : Nat → Nat} {a : Act}
theorem slots_back (live ds : List Nat) : ∀ (sl ss : List Slot) (ne t : Nat) (vs : List At), matchSlots live ds (headSlots live ds ne sl t).1 ss t = some vs → FitS env' β' a ss t →
    (∀ s ∈ sl, (∀ e ∈ svE s.s, env'' e = env' e) ∧ ∀ b ∈ svB s.s, β b = β' b) → (∀ k (h : k < vs.length), (env'' (ne + k)).1 = vs[k].den env' β') →
    FitS env'' β a (headSlots live ds ne sl t).1 t ∧ vs.length = (headSlots live ds ne sl t).2.1.length
  | [], ss, ne, t, vs, h, _, _, _ => by
    simp only [headSlots] at h ⊢
    cases ss with
    | nil => simp [matchSlots] at h; subst h; exact ⟨trivial, rfl⟩
    | cons => simp [matchSlots] at h
  | s :: r, ss, ne, t, vs, h, hf, hE, hv => by
    have hEr : ∀ s ∈ r, (∀ e ∈ svE s.s, env'' e = env' e) ∧ ∀ b ∈ svB s.s, β b = β' b := fun x hx => hE x (by simp [hx])
    simp only [headSlots] at h ⊢
    cases ss with
    | nil => split at h <;> (try split at h) <;> simp [matchSlots] at h
    | cons s' ss =>
    split at h
    · rename_i hl
      rw [if_pos hl]
      split at h
      · rename_i a0 hs
        simp only [matchSlots, hl, if_true] at h
        split at h
        · rename_i _ _ i1 a1 he1
          split at h
          · rename_i hok
            cases hm : matchSlots live ds (headSlots live ds (ne + 1) r (t + 1)).1 ss (t + 1) with
            | none => simp [hm] at h
            | some vs' =>
            simp [hm] at h
            subst h
            obtain ⟨h1, h2⟩ := slots_back live ds r ss (ne + 1) (t + 1) vs' hm hf.2 hEr (fun k hk => by
              have := hv (k + 1) (by simpa using hk)
              rw [show ne + 1 + k = ne + (k + 1) from by omega, this]; rfl)
            refine ⟨⟨fun _ => ⟨fun _ => ?_, fun hc => absurd (conds_nil _ _) hc⟩, h1⟩, by simp [h2]⟩
            have := (hf.1 hok).1 (conds_nil _ _)
            rw [this]
            have h0 := hv 0 (by simp)
            simp only [Nat.add_zero, List.getElem_cons_zero] at h0
            simp only [SV.den, At.den] at h0 ⊢
            rw [h0]
          · cases h
        · rename_i heq; simp at heq
        · cases h
      · rename_i hs
        simp only [matchSlots, hl, if_true] at h
        obtain ⟨h1, h2⟩ := slots_back live ds r ss ne (t + 1) vs h hf.2 hEr hv
        exact ⟨⟨fun hok => by simp [okSV, okAt] at hok, h1⟩, h2⟩
    · rename_i hl
      rw [if_neg hl]
      simp only [matchSlots, hl] at h
      simp only [Bool.false_eq_true, if_false] at h
      split at h
      · rename_i hd
        obtain ⟨h1, h2⟩ := slots_back live ds r ss ne (t + 1) vs h hf.2 hEr hv
        rw [if_pos hd]
        exact ⟨⟨fun hok => by simp [okSV, okAt] at hok, h1⟩, h2⟩
      · rename_i hd
        simp only [if_neg hd] at h ⊢
        by_cases hgE : ¬ s.g = []
        · have hfj : forget s = ⟨.x .junk, []⟩ := by
            unfold forget
            split
            · rename_i hg; exact absurd hg hgE
            · rfl
          rw [hfj] at h ⊢
          have hrec : matchSlots live ds (headSlots live ds ne r (t + 1)).1 ss (t + 1) = some vs := by
            split at h <;> exact h
          obtain ⟨h1, h2⟩ := slots_back live ds r ss ne (t + 1) vs hrec hf.2 hEr hv
          exact ⟨⟨fun hok => by simp [okSV, okAt] at hok, h1⟩, h2⟩
        have hgE : s.g = [] := Classical.not_not.1 hgE
        have hfs : forget s = s := by unfold forget; rw [hgE]
        rw [hfs] at h ⊢
        split at h
        · rename_i hc
          simp only [Bool.and_eq_true] at hc
          obtain ⟨⟨hc1, hc2⟩, hc3⟩ := hc
          obtain ⟨h1, h2⟩ := slots_back live ds r ss ne (t + 1) vs h hf.2 hEr hv
          refine ⟨⟨fun hok => ?_, h1⟩, h2⟩
          have hes := svSame_eq hc1
          have hg : s.g = [] := List.isEmpty_iff.1 hc2
          have hg' : s'.g = [] := List.isEmpty_iff.1 hc3
          have := (hf.1 (by rw [← hes]; exact hok)).1 (by rw [hg']; exact conds_nil _ _)
          rw [hg]
          refine ⟨fun _ => ?_, fun hc => absurd (conds_nil _ _) hc⟩
          rw [this, ← hes]
          congr 1
          exact (SV.den_congr (hE s (by simp)).1 (hE s (by simp)).2).symm
        · split at h
          · rename_i hj
            obtain ⟨h1, h2⟩ := slots_back live ds r ss ne (t + 1) vs h hf.2 hEr hv
            exact ⟨⟨fun hok => by rw [hj] at hok; simp [okSV, okAt] at hok, h1⟩, h2⟩
          · cases h
/-- A block of the head says of memory what the block behind the round says. -/
def RelB (env'' : Env) (β : Nat → Nat) (env' : Env) (β' : Nat → Nat) (h s : List (Option Blk)) : Prop :=
  ∀ (k : Nat) (hb : Blk), h[k]? = some (some hb) → ∃ sb, s[k]? = some (some sb) ∧ sb.n = hb.n ∧ sb.ty = hb.ty ∧ sb.own = hb.own ∧ hb.cont.den env'' β = sb.cont.den env' β' ∧ (sb.cont.ok env' → hb.cont.ok env'')
theorem relB_cons {h s : List (Option Blk)} {hb sb : Option Blk} (h1 : ∀ b, hb = some b → ∃ c, sb = some c ∧ c.n = b.n ∧ c.ty = b.ty ∧ c.own = b.own ∧ b.cont.den env'' β = c.cont.den env' β' ∧ (c.cont.ok env' → b.cont.ok env''))
    (h2 : RelB env'' β env' β' h s) : RelB env'' β env' β' (hb :: h) (sb :: s) := fun k b hk => by
  cases k with
  | zero =>
    simp at hk
    obtain ⟨c, e, r⟩ := h1 b hk
    exact ⟨c, by simp [e], r⟩
  | succ k => simpa using h2 k b (by simpa using hk)
theorem vars_den (env : Env) (β : Nat → Nat) : ∀ (n k : Nat) (vs : List Value), vs.length = n → (∀ i (h : i < vs.length), (env (k + i)).1 = vs[i]) → (varsFrom k n).map (At.den env β) = vs
  | 0, k, vs, hl, _ => by
    have : vs = [] := List.length_eq_zero_iff.1 hl
    subst this; rfl
  | n + 1, k, [], hl, _ => by simp at hl
  | n + 1, k, v :: vs, hl, h => by
    simp only [varsFrom, List.map_cons]
    have h0 := h 0 (by simp)
    rw [vars_den env β n (k + 1) vs (by simpa using hl) (fun i hi => by
      have := h (i + 1) (by simpa using hi)
      rw [show k + 1 + i = k + (i + 1) from by omega, this]; rfl)]
    congr 1
theorem blocks_back (hv : List Nat) : ∀ (bl ss : List (Option Blk)) (ne t : Nat) (ws : List At), matchBlocks hv (headBlocks hv ne bl t).1 ss t = some ws →
    (∀ b, some b ∈ bl → (∀ e ∈ contE b.cont, env'' e = env' e) ∧ ∀ c ∈ contB b.cont, β c = β' c) → (∀ k (h : k < ws.length), (env'' (ne + k)).1 = ws[k].den env' β') →
    RelB env'' β env' β' (headBlocks hv ne bl t).1 ss ∧ ws.length = (headBlocks hv ne bl t).2.1.length
  | [], ss, ne, t, ws, h, _, _ => by
    simp only [headBlocks] at h ⊢
    simp only [matchBlocks, Option.some.injEq] at h
    subst h
    exact ⟨fun k b hk => by simp at hk, rfl⟩
  | b :: r, ss, ne, t, ws, h, hE, hv' => by
    have hEr : ∀ b, some b ∈ r → (∀ e ∈ contE b.cont, env'' e = env' e) ∧ ∀ c ∈ contB b.cont, β c = β' c := fun x hx => hE x (by simp [hx])
    simp only [headBlocks] at h ⊢
    split at h
    · rename_i l n ty own hin
      cases ss with
      | nil => simp [matchBlocks] at h
      | cons s' ss =>
      cases s' with
      | none => simp [matchBlocks] at h
      | some sb =>
      simp only [matchBlocks] at h
      split at h
      · cases h
      · rename_i hc
        simp only [Bool.not_eq_true', Bool.not_eq_false] at hc
        simp only [Bool.and_eq_true, beq_iff_eq] at hc
        split at h
        · rename_i l' m hl' hm
          split at h
          · rename_i hlen
            simp only [beq_iff_eq] at hlen
            cases hrec : matchBlocks hv (headBlocks hv (ne + l.length) r (t + 1)).1 ss (t + 1) with
            | none => simp [hrec] at h
            | some ws' =>
            simp [hrec] at h
            subst h
            cases hl'
            rw [vars_len] at hlen
            obtain ⟨h1, h2⟩ := blocks_back hv r ss (ne + l.length) (t + 1) ws' hrec hEr (fun k hk => by
              have := hv' (m.length + k) (by simp; omega)
              rw [show ne + l.length + k = ne + (m.length + k) from by omega, this, List.getElem_append_right (by omega)]
              congr 2; omega)
            refine ⟨relB_cons (fun b hb => ?_) h1, by simp [h2, hlen]⟩
            simp only [Option.some.injEq] at hb
            subst hb
            refine ⟨sb, rfl, hc.1.1.symm, hc.1.2.symm, hc.2.symm, ?_, fun _ => trivial⟩
            rw [hm]
            simp only [Cont.den]
            rw [vars_den env'' β l.length ne (m.map (At.den env' β')) (by simp [hlen]) (fun i hi => by
              have hi' : i < m.length := by simpa using hi
              have := hv' i (by simp; omega)
              rw [this, List.getElem_append_left hi']; simp)]
          · cases h
        · rename_i hl' _; simp at hl'
        · cases h
    · rename_i i n ty own hin
      cases ss with
      | nil => simp [matchBlocks] at h
      | cons s' ss =>
      cases s' with
      | none => simp [matchBlocks] at h
      | some sb =>
      simp only [matchBlocks] at h
      split at h
      · cases h
      · rename_i hc
        simp only [Bool.not_eq_true', Bool.not_eq_false] at hc
        simp only [Bool.and_eq_true, beq_iff_eq] at hc
        split at h
        · rename_i hl' _; simp at hl'
        · rename_i i' j hl' hm
          cases hrec : matchBlocks hv (headBlocks hv (ne + 1) r (t + 1)).1 ss (t + 1) with
          | none => simp [hrec] at h
          | some ws' =>
          simp [hrec] at h
          subst h
          obtain ⟨h1, h2⟩ := blocks_back hv r ss (ne + 1) (t + 1) ws' hrec hEr (fun k hk => by
            have := hv' (k + 1) (by simpa using hk)
            rw [show ne + 1 + k = ne + (k + 1) from by omega, this]; rfl)
          have h0 := hv' 0 (by simp)
          simp only [Nat.add_zero, List.getElem_cons_zero, At.den] at h0
          refine ⟨relB_cons (fun b hb => ?_) h1, by simp [h2]⟩
          simp only [Option.some.injEq] at hb
          subst hb
          refine ⟨sb, rfl, hc.1.1.symm, hc.1.2.symm, hc.2.symm, ?_, fun hok => ?_⟩
          · rw [hm]; simp only [Cont.den, h0]
          · rw [hm] at hok; simp only [Cont.ok, h0] at hok ⊢; exact hok
        · cases h
    · rename_i b _ _ hin1 hin2
      cases b with
      | none =>
        cases ss with
        | nil => simp [matchBlocks] at h
        | cons s' ss =>
          simp only [matchBlocks] at h
          obtain ⟨h1, h2⟩ := blocks_back hv r ss ne (t + 1) ws h hEr hv'
          exact ⟨relB_cons (fun b hb => by cases hb) h1, h2⟩
      | some b =>
      cases ss with
      | nil => simp [matchBlocks] at h
      | cons s' ss =>
      cases s' with
      | none => simp [matchBlocks] at h
      | some sb =>
      have hin : hv.contains t = false := by
        cases hq : hv.contains t with
        | false => rfl
        | true =>
          obtain ⟨c, n, ty, own⟩ := b
          cases c with
          | en l => exact absurd rfl (hin1 l n ty own hq)
          | wh i => exact absurd rfl (hin2 i n ty own hq)
      simp only [matchBlocks] at h
      split at h
      · cases h
      · rename_i hc
        simp only [Bool.not_eq_true', Bool.not_eq_false] at hc
        simp only [Bool.and_eq_true, beq_iff_eq] at hc
        simp only [hin, Bool.false_eq_true, if_false] at h
        split at h
        · rename_i hcs
          obtain ⟨h1, h2⟩ := blocks_back hv r ss ne (t + 1) ws h hEr hv'
          have hce := contSame_eq hcs
          refine ⟨relB_cons (fun b' hb => ?_) h1, h2⟩
          simp only [Option.some.injEq] at hb
          subst hb
          obtain ⟨e1, e2⟩ := hE b (by simp)
          refine ⟨sb, rfl, hc.1.1.symm, hc.1.2.symm, hc.2.symm, ?_, fun hok => ?_⟩
          · rw [← hce]; exact Cont.den_congr e1 e2
          · rw [← hce] at hok; exact Cont.ok_congr (fun e he => (e1 e he).symm) hok
        · cases h
end
end
end Go.Vc

/-
  The engine is sound, part 10: code and functions.
-/
namespace Go.Vc
open Go Go.RowKit
section
variable {X : Ctx} {A : Ann}
/-- The environment at the head of a loop: the variables have these values, the world is this. -/
def loopEnv (X : Ctx) (env : Env) (ne : Nat) (us : List Value) (w : World) : Env := upd (updl env ne (vals X us)) (ne + us.length) (undef, w)
theorem loopEnv_lt {env : Env} {ne : Nat} {us : List Value} {w : World} {e : Nat} (h : e < ne) : loopEnv X env ne us w e = env e := by
  unfold loopEnv; rw [upd_ne _ _ (by omega), updl_lt _ _ _ _ h]
theorem loopEnv_get {env : Env} {ne : Nat} {us : List Value} {w : World} {k : Nat} (h : k < us.length) : (loopEnv X env ne us w (ne + k)).1 = us[k] := by
  unfold loopEnv
  rw [upd_ne _ _ (by omega), updl_get _ _ _ k (by simpa [vals] using h)]
  simp [vals]
theorem loopEnv_w {env : Env} {ne : Nat} {us : List Value} {w : World} : loopEnv X env ne us w (ne + us.length) = (undef, w) := upd_same _ _ _
/-- Memory and frame behind a round fit the loop's head. -/
theorem back_sound {σ σ' : St} {env env' : Env} {β β' : Nat → Nat} {a : Act} {w : World} {live ds hv : List Nat} {us : List At} (hwf : wf σ = true)
    (h0 : ∀ (g k : Nat), (g, k) ∈ σ.gl → β k = g)
    (hs : Sat X σ' env' β' a w) (he : ∀ e, e < σ.ne → env' e = env e) (hb : ∀ b, b < σ.blocks.length → β' b = β b)
    (h : backTo live ds hv (head live ds hv σ).1 σ' = some us) :
    Sat X (head live ds hv σ).1 (loopEnv X env σ.ne (us.map (·.den env' β')) w) β a w ∧ us.length = (head live ds hv σ).2.length := by
  simp only [backTo, Option.bind_eq_bind] at h
  cases h1 : matchSlots live ds (head live ds hv σ).1.slots σ'.slots 0 with
  | none => simp [h1] at h
  | some vs =>
  cases h2 : matchBlocks hv (head live ds hv σ).1.blocks σ'.blocks 0 with
  | none => simp [h1, h2] at h
  | some ws =>
  simp [h1, h2] at h
  subst h
  obtain ⟨p1, p2, p3, p4, p5⟩ := wf_parts hwf
  have hlen1 := (headSlots_len live ds σ.slots σ.ne 0).2
  have hlen2 := (headBlocks_len hv σ.blocks (headSlots live ds σ.ne σ.slots 0).2.2 0).2
  generalize henv : loopEnv X env σ.ne ((vs ++ ws).map (·.den env' β')) w = env''
  have hvl : ∀ k (h : k < (vs ++ ws).length), (env'' (σ.ne + k)).1 = (vs ++ ws)[k].den env' β' := fun k hk => by
    rw [← henv, loopEnv_get (by simpa using hk), List.getElem_map]
  have hup : ∀ e, e < σ.ne → env'' e = env' e := fun e h' => by rw [← henv, loopEnv_lt h', he e h']
  simp only [head] at h1 h2
  obtain ⟨s1, s2⟩ := slots_back (env'' := env'') (env' := env') (β := β) (β' := β') live ds σ.slots σ'.slots σ.ne 0 vs h1 (fitS_of fun t sl hsl hok => by have := hs.slot t sl hsl hok; rwa [Nat.zero_add])
    (fun s hs' => by
      have := p1 s hs'
      simp only [okSlot, okE, Bool.and_eq_true, List.all_eq_true, decide_eq_true_eq] at this
      exact ⟨fun e h' => hup e (this.1.1 e h'), fun b h' => (hb b (this.1.2 b h')).symm⟩)
    (fun k hk => by rw [hvl k (by simp; omega), List.getElem_append_left hk])
  obtain ⟨b1, b2⟩ := blocks_back (env'' := env'') (env' := env') (β := β) (β' := β') hv σ.blocks σ'.blocks (headSlots live ds σ.ne σ.slots 0).2.2 0 ws h2
    (fun b hb' => by
      have := p2 _ hb'
      simp only [okB, okC, Bool.and_eq_true, List.all_eq_true, decide_eq_true_eq] at this
      exact ⟨fun e h' => hup e (this.1 e h'), fun c h' => (hb c (this.2 c h')).symm⟩)
    (fun k hk => by
      have hl : vs.length = (headSlots live ds σ.ne σ.slots 0).2.1.length := s2
      rw [show (headSlots live ds σ.ne σ.slots 0).2.2 + k = σ.ne + (vs.length + k) from by omega, hvl (vs.length + k) (by simp; omega), List.getElem_append_right (by omega)]
      congr 2; omega)
  have hsy : env'' (headBlocks hv (headSlots live ds σ.ne σ.slots 0).2.2 σ.blocks 0).2.2 = (undef, w) := by
    rw [← henv, show (headBlocks hv (headSlots live ds σ.ne σ.slots 0).2.2 σ.blocks 0).2.2 = σ.ne + ((vs ++ ws).map (·.den env' β')).length from by simp; omega]
    exact loopEnv_w
  have hblen : (headBlocks hv (headSlots live ds σ.ne σ.slots 0).2.2 σ.blocks 0).1.length = σ.blocks.length := (headBlocks_len hv σ.blocks _ 0).1
  have hk_lt : ∀ (k : Nat) (hb' : Blk), (headBlocks hv (headSlots live ds σ.ne σ.slots 0).2.2 σ.blocks 0).1[k]? = some (some hb') → k < σ.blocks.length := fun k hb' hk => by
    have := (List.getElem?_eq_some_iff.1 hk).1; omega
  refine ⟨⟨?_, hs.defers, ?_, ?_⟩, by simp [head, s2, b2]⟩
  · refine { blk := ?_, inh := ?_, own := ?_, apart := ?_, glob := h0, past := ?_, wksz := ?_, keep := hs.mem.keep, sz0 := hs.mem.sz0, os := hs.mem.os, tape := hs.mem.tape, output := hs.mem.output }
    · intro k hb' hk
      obtain ⟨sb, e1, e2, e3, e4, e5, e6⟩ := b1 k hb' hk
      obtain ⟨q1, q2, q3⟩ := hs.mem.blk k sb e1
      refine ⟨?_, by rw [e5, q2, e2], e6 q3⟩
      rw [← hb k (hk_lt k hb' hk)]
      unfold Holds at *
      rw [← e4, e5, ← e3]
      exact q1
    · intro k hb' hk
      obtain ⟨sb, e1, _⟩ := b1 k hb' hk
      rw [← hb k (hk_lt k hb' hk)]
      exact hs.mem.inh k sb e1
    · intro k hb' hk ho
      obtain ⟨sb, e1, _, _, e4, _⟩ := b1 k hb' hk
      rw [← hb k (hk_lt k hb' hk)]
      exact hs.mem.own k sb e1 (by rw [e4]; exact ho)
    · intro j k bj bk hjk hj hk ho
      obtain ⟨sj, e1, _, _, e4, _⟩ := b1 j bj hj
      obtain ⟨sk, f1, _⟩ := b1 k bk hk
      rw [← hb j (hk_lt j bj hj), ← hb k (hk_lt k bk hk)]
      exact hs.mem.apart j k sj sk hjk e1 f1 (by rw [e4]; exact ho)
    · intro _ b _ _
      simp only [head]
      rw [hsy]
    · simp only [head]
      rw [hsy]
      exact Nat.le_refl _
  · have h3 : ∀ (sl ss : List Slot) (ne t : Nat) (vs : List At), matchSlots live ds (headSlots live ds ne sl t).1 ss t = some vs → ss.length = sl.length := by
      intro sl
      induction sl with
      | nil => intro ss ne t vs h; cases ss with | nil => rfl | cons => simp [headSlots, matchSlots] at h
      | cons s r ih =>
        intro ss ne t vs h
        cases ss with
        | nil => simp only [headSlots] at h; split at h <;> (try split at h) <;> simp [matchSlots] at h
        | cons s' ss =>
          simp only [headSlots] at h
          simp only [List.length_cons, Nat.add_right_cancel_iff]
          split at h
          · rename_i hl
            split at h
            · simp only [matchSlots, hl, if_true] at h
              split at h
              · split at h
                · cases hm : matchSlots live ds (headSlots live ds (ne + 1) r (t + 1)).1 ss (t + 1) with
                  | none => simp [hm] at h
                  | some q => exact ih ss (ne + 1) (t + 1) q hm
                · cases h
              · rename_i heq; simp at heq
              · cases h
            · simp only [matchSlots, hl, if_true] at h
              exact ih ss ne (t + 1) vs h
          · rename_i hl
            simp only [matchSlots, hl] at h
            simp only [Bool.false_eq_true, if_false] at h
            split at h
            · exact ih ss ne (t + 1) vs h
            · split at h
              · exact ih ss ne (t + 1) vs h
              · split at h
                · exact ih ss ne (t + 1) vs h
                · cases h
    rw [hs.size, h3 _ _ _ _ _ h1]
    exact (headSlots_len live ds σ.slots σ.ne 0).1.symm
  · intro t sl hsl hok
    have := fitS_to s1 t sl hsl hok
    rwa [Nat.zero_add] at this
/-- What stands behind code. -/
abbrev Beh (X : Ctx) (dp : Nat) (σ : St) (env : Env) (β : Nat → Nat) (ls : Nat → List Value → World → Prop) (K : Ex → St → T) (Q : Exit → Act → World → Prop) : Prop :=
  ∀ e σ' env' β' a' w' (ls' : Nat → List Value → World → Prop), wf σ' = true → Sat X σ' env' β' a' w' → Ext σ env β σ' env' β' → (∀ d, d < dp → ls' d = ls d) → (K e σ').den X env' σ'.ne β' σ'.blocks.length ls' → Q (toExit e) a' w'
theorem exec_sound (G : Good X A) : ∀ (fuel dp : Nat) (c : Code) (σ : St) (K : Ex → St → T) (env : Env) (β : Nat → Nat) (a : Act) (w : World) (ls : Nat → List Value → World → Prop) (Q : Exit → Act → World → Prop),
    wf σ = true → Sat X σ env β a w → (exec X.P A fuel dp c σ K).den X env σ.ne β σ.blocks.length ls → Beh X dp σ env β ls K Q → c.wp X.P Q a w
  | 0, dp, c, σ, K, env, β, a, w, ls, Q, hwf, hs, hd, hK => by simp only [exec, T.den] at hd
  | fuel + 1, dp, c, σ, K, env, β, a, w, ls, Q, hwf, hs, hd, hK => by
    have IH := exec_sound G fuel
    cases c with
    | skip => simp only [exec] at hd; exact wp_skip (hK .normal σ env β a w ls hwf hs (Ext.refl _ _ _) (fun _ _ => rfl) hd)
    | region id ops draw =>
      simp only [exec] at hd
      cases draw with
      | false =>
        simp only [Bool.false_eq_true, if_false] at hd
        refine wp_region_list (execOps_sound G (K' := fun a w => Q .normal a w) ops.toList hwf hs hd (fun σ' env' β' a' w' h1 h2 h3 h4 => hK .normal σ' env' β' a' w' ls h1 h2 h3 (fun _ _ => rfl) h4) (fun _ _ h => h))
      | true =>
        simp only [if_true] at hd
        exact execDraw_sound G (K' := fun a w => Q .normal a w) hwf hs hd (fun σ' env' β' a' w' h1 h2 h3 h4 => hK .normal σ' env' β' a' w' ls h1 h2 h3 (fun _ _ => rfl) h4) (fun _ _ h => h)
    | seq x y =>
      simp only [exec] at hd
      refine wp_seq (IH dp x σ _ env β a w ls _ hwf hs hd ?_)
      intro e σ' env' β' a' w' ls' h1 h2 h3 h4 h5
      cases e with
      | normal =>
        exact IH dp y σ' K env' β' a' w' ls' Q h1 h2 h5 (fun e σ'' env'' β'' a'' w'' ls'' k1 k2 k3 k4 k5 => hK e σ'' env'' β'' a'' w'' ls'' k1 k2 (h3.trans k3) (fun d hd => (k4 d hd).trans (h4 d hd)) k5)
      | exit id => exact hK (.exit id) σ' env' β' a' w' ls' h1 h2 h3 h4 h5
      | ret => exact hK .ret σ' env' β' a' w' ls' h1 h2 h3 h4 h5
    | cond c x y =>
      simp only [exec] at hd
      split at hd
      · rename_i t hc
        have := evalO_sound hs (conds_nil _ _) hc
        simp only [SV.den, At.den] at this
        refine wp_cond this ?_
        cases t
        · exact IH dp y σ K env β a w ls Q hwf hs hd hK
        · exact IH dp x σ K env β a w ls Q hwf hs hd hK
      · rename_i i hc
        have hv := evalO_sound hs (conds_nil _ _) hc
        simp only [SV.den] at hv
        simp only [T.den] at hd
        obtain ⟨⟨t, ht⟩, hd1, hd2⟩ := hd
        rw [ht] at hv
        refine wp_cond_split hv (fun h => ?_) (fun h => ?_)
        · subst h; exact IH dp x σ K env β a w ls Q hwf hs (hd1 ht) hK
        · subst h; exact IH dp y σ K env β a w ls Q hwf hs (hd2 ht) hK
      · simp only [T.den] at hd
    | block id x =>
      simp only [exec] at hd
      refine wp_block (IH dp x σ _ env β a w ls _ hwf hs hd ?_)
      intro e σ' env' β' a' w' ls' h1 h2 h3 h4 h5
      cases e with
      | normal => exact hK .normal σ' env' β' a' w' ls' h1 h2 h3 h4 h5
      | exit i =>
        simp only [toExit, Exit.inBlock]
        by_cases hi : i = id
        · subst hi
          simp only [if_true] at h5 ⊢
          exact hK .normal σ' env' β' a' w' ls' h1 h2 h3 h4 h5
        · simp only [if_neg hi] at h5 ⊢
          exact hK (.exit i) σ' env' β' a' w' ls' h1 h2 h3 h4 h5
      | ret => exact hK .ret σ' env' β' a' w' ls' h1 h2 h3 h4 h5
    | exit id => simp only [exec] at hd; exact wp_exit (hK (.exit id) σ env β a w ls hwf hs (Ext.refl _ _ _) (fun _ _ => rfl) hd)
    | ret => simp only [exec] at hd; exact wp_ret (hK .ret σ env β a w ls hwf hs (Ext.refl _ _ _) (fun _ _ => rfl) hd)
    | loop x =>
      simp only [exec] at hd
      split at hd
      · simp only [T.den] at hd
      · split at hd
        · -- unrolled
          have key : ∀ (m : Nat) (σ : St) (env : Env) (β : Nat → Nat) (a : Act) (w : World) (ls : Nat → List Value → World → Prop), wf σ = true → Sat X σ env β a w →
              (rounds (fun σ K => exec X.P A fuel dp x σ K) K m σ).den X env σ.ne β σ.blocks.length ls → Beh X dp σ env β ls K Q → roundsWp X.P x Q m a w := by
            intro m
            induction m with
            | zero => intro σ env β a w ls _ _ hd _; simp only [rounds, T.den] at hd
            | succ m ihm =>
              intro σ env β a w ls hwf hs hd hK
              simp only [rounds] at hd
              refine IH dp x σ _ env β a w ls _ hwf hs hd ?_
              intro e σ' env' β' a' w' ls' h1 h2 h3 h4 h5
              cases e with
              | normal => exact ihm σ' env' β' a' w' ls' h1 h2 h5 (fun e σ'' env'' β'' a'' w'' ls'' k1 k2 k3 k4 k5 => hK e σ'' env'' β'' a'' w'' ls'' k1 k2 (h3.trans k3) (fun d hd => (k4 d hd).trans (h4 d hd)) k5)
              | exit id => exact hK (.exit id) σ' env' β' a' w' ls' h1 h2 h3 h4 h5
              | ret => exact hK .ret σ' env' β' a' w' ls' h1 h2 h3 h4 h5
          exact wp_loop_of_rounds (key A.unroll σ env β a w ls hwf hs hd hK)
        · rename_i _ live hv _
          split at hd
          · simp only [T.den] at hd
          · rename_i us0 hback0
            split at hd
            · simp only [T.den] at hd
            · rename_i hwfh
              have hwfh : wf (head live (dsts x) hv σ).1 = true ∧ σ.sy.live = true := by simpa using hwfh
              obtain ⟨hwfh, hlive⟩ := hwfh
              simp only [T.den] at hd
              obtain ⟨I, μ, hI0, hbody⟩ := hd
              obtain ⟨hs0, hl0⟩ := back_sound hwf (fun g k h => hs.mem.glob g k h) hs (fun _ _ => rfl) (fun _ _ => rfl) hback0
              have hhne : (head live (dsts x) hv σ).1.ne = σ.ne + us0.length + 1 := by
                rw [hl0]
                have e1 := (headSlots_len live (dsts x) σ.slots σ.ne 0).2
                have e2 := (headBlocks_len hv σ.blocks (headSlots live (dsts x) σ.ne σ.slots 0).2.2 0).2
                simp only [head, List.length_append]; omega
              have hhnb : (head live (dsts x) hv σ).1.blocks.length = σ.blocks.length := (headBlocks_len hv σ.blocks _ 0).1
              refine wp_loop_data (ι := List Value × World) (fun us a w => us.1.length = us0.length ∧ I us.1 us.2 ∧ Sat X (head live (dsts x) hv σ).1 (loopEnv X env σ.ne us.1 us.2) β a w) (fun us => μ us.1 us.2) (us0.map (·.den env β), w)
                ⟨by simp, hI0 w (hs.mem.known hlive (fun kb h => by have := (knownBl_get _ 0 kb h).2; simpa using this)), hs0⟩ ?_
              intro ⟨us, u⟩ a1 w1 ⟨hul, hIu, hs1⟩
              simp only at hul hIu hs1
              have hb := allV_apply hul hbody u hIu
              rw [← hul] at hb
              refine IH (dp + 1) x (head live (dsts x) hv σ).1 _ (loopEnv X env σ.ne us u) β a1 w1 _ _ hwfh hs1 (by rw [hhne, hhnb, ← hul]; exact hb) ?_
              intro e σ' env' β' a' w' ls' h1 h2 h3 h4 h5
              have hx : Ext σ env β σ' env' β' := by
                refine ⟨by have := h3.ne; omega, by rw [← hhnb]; exact h3.nb, fun e he => ?_, fun b hb => h3.beta b (by rw [hhnb]; exact hb)⟩
                rw [h3.env e (by omega), loopEnv_lt he]
              have hls : ∀ d, d < dp → ls' d = ls d := fun d hd => by
                rw [h4 d (by omega), upd_ne _ _ (by omega)]
              cases e with
              | normal =>
                simp only at h5
                split at h5
                · rename_i us' hback
                  split at h5
                  · rename_i hlive'
                    simp only [T.den] at h5
                    rw [h4 dp (by omega), upd_same] at h5
                    obtain ⟨hs2, hl2⟩ := back_sound hwf (fun g k h => hs.mem.glob g k h) h2 hx.env hx.beta hback
                    have h6 := h5 w' (h2.mem.known hlive' (fun kb h => by cases h))
                    exact ⟨(us'.map (·.den env' β'), w'), ⟨by simp [hl2, hl0], h6.1, hs2⟩, h6.2⟩
                  · simp only [T.den] at h5
                · simp only [T.den] at h5
              | exit id => exact hK (.exit id) σ' env' β' a' w' ls' h1 h2 hx hls h5
              | ret => exact hK .ret σ' env' β' a' w' ls' h1 h2 hx hls h5
    | _ => simp only [exec, T.den] at hd
/-! ### functions -/
theorem stepLoad_run {σ : St} {env : Env} {β : Nat → Nat} {w : World} {blocks gl} (hm : Mem X σ.sy blocks gl env β w) (hbl : blocks = σ.blocks) {t : TypeId} {x s : SV} (h : stepLoad X.P σ t x = some ⟨[], .val s⟩) :
    (∃ b o, x.den env β = .pointer (some ⟨b, o, none⟩)) ∧ (Instr.loadAt t (x.den env β)).run X.P w = .ok (s.den env β) w := by
  subst hbl
  unfold stepLoad at h
  cases hn : sz X.P t with
  | none => simp [hn] at h
  | some n =>
  cases hag : agg? X.P t with
  | none => simp [hn, hag] at h
  | some ag =>
  simp only [hn, hag, Option.bind_eq_bind, Option.bind_some] at h
  split at h
  · rename_i b o'
    cases hb : blk? σ b with
    | none => simp [hb] at h
    | some bl =>
    simp only [hb, Option.bind_some] at h
    have hblk := hm.blk b bl (blk?_some hb)
    refine ⟨⟨_, _, rfl⟩, ?_⟩
    split at h
    · rename_i l hl
      have hd : bl.cont.den env β = (l.map (At.den env β)).toArray := by rw [hl]; rfl
      split at h
      · rename_i hle
        split at h
        · rename_i hag1
          simp only [Option.some.injEq, Res.mk.injEq, Fin.val.injEq, true_and] at h
          subst h
          simp only [SV.den, At.den]
          refine load_agg (by rw [hag, hag1]) (by rw [hn]; simp; omega) (fun j v hv => holds_cell hblk.1 ?_)
          rw [hd]
          simp only [List.map_take, List.map_drop] at hv
          rw [List.getElem?_take] at hv
          split at hv
          · rw [List.getElem?_drop] at hv; simpa using hv
          · cases hv
        · rename_i hag0
          split at h
          · split at h
            · rename_i at_ hat
              split at h
              · simp only [Option.some.injEq, Res.mk.injEq, Fin.val.injEq, true_and] at h
                subst h
                show Sem.run X.P (Instr.loadAt t (.pointer (some ⟨β b, o', none⟩))) w = .ok (at_.den env β) w
                refine load_one (by rw [hag]; simp at hag0; rw [hag0]) (holds_cell hblk.1 ?_)
                rw [hd]; simp [hat]
              · cases h
            · cases h
          · cases h
      · cases h
    · rename_i i hi
      split at h
      · rename_i hc
        simp only [Bool.and_eq_true, beq_iff_eq] at hc
        obtain ⟨⟨hc1, hc2⟩, hc3⟩ := hc
        simp only [Option.some.injEq, Res.mk.injEq, Fin.val.injEq, true_and] at h
        subst h
        subst hc2
        obtain ⟨hb1, hb2, hb3⟩ := hblk
        have hd : bl.cont.den env β = aggArr (env i).1 := by rw [hi]; rfl
        rw [hi] at hb3
        simp only [Cont.ok] at hb3
        simp only [SV.den, At.den]
        rw [hb3]
        have := load_agg (X := X) (w := w) (t := t) (b := β b) (o := 0) (cs := (aggArr (env i).1).toList) (by rw [hag, hc1]) (by rw [hn, hc3, ← hb2, hd]; simp) (fun j v hv => holds_cell hb1 (by
          rw [hd, Nat.zero_add]; simpa using hv))
        simpa only [Array.toArray_toList] using this
      · split at h <;> simp at h
  · rename_i b base stride i
    cases hb : blk? σ b with
    | none => simp [hb] at h
    | some bl =>
    simp only [hb, Option.bind_some] at h
    split at h <;> simp at h
  · cases h
  · cases h
  · cases h
  · simp at h
def resVal (tmps : Array Value) : ResultVar → Sem Value
  | .tmp t => pure (tmps.getD t undef)
  | .cell b t => do loadVar t (← asAddr (tmps.getD b undef))
theorem results_eq (fn : Func) (tmps : Array Value) : results fn tmps = (do let vs ← fn.results.mapM (resVal tmps); pure (if h : vs.size = 1 then vs[0] else .tuple vs)) := rfl
theorem resComp_sound {σ : St} {env : Env} {β : Nat → Nat} {a : Act} {w : World} (hs : Sat X σ env β a w) {r : ResultVar} {p : List At × Bool} (h : resComp X.P σ r = some p) :
    (resVal a.tmps r).run X.P w = .ok (comp env β p) w := by
  cases r with
  | tmp t =>
    simp only [resComp] at h
    cases he : evalO σ [] (.tmp t) with
    | none => simp [he] at h
    | some s =>
      have := evalO_sound hs (conds_nil _ _) he
      simp only [Act.eval] at this
      cases s <;> simp [he] at h
      · subst h; simp only [resVal, Sem.run_pure, this]; rfl
      · subst h; simp only [resVal, Sem.run_pure, this]; rfl
  | cell b t =>
    simp only [resComp, Option.bind_eq_bind] at h
    cases he : evalO σ [] (.tmp b) with
    | none => simp [he] at h
    | some s =>
    cases hl : stepLoad X.P σ t s with
    | none => simp [he, hl] at h
    | some r =>
    simp only [he, hl, Option.bind_some] at h
    have hv := evalO_sound hs (conds_nil _ _) he
    simp only [Act.eval] at hv
    split at h
    · rename_i a'
      simp only [Option.some.injEq] at h
      subst h
      obtain ⟨⟨b', o', hp⟩, hr⟩ := stepLoad_run hs.mem rfl hl
      rw [hp] at hr hv
      simp only [Instr.loadAt, Instr.sureAddr] at hr
      simpa [resVal, hv, asAddr, comp, SV.den] using hr
    · rename_i as
      simp only [Option.some.injEq] at h
      subst h
      obtain ⟨⟨b', o', hp⟩, hr⟩ := stepLoad_run hs.mem rfl hl
      rw [hp] at hr hv
      simp only [Instr.loadAt, Instr.sureAddr] at hr
      simpa [resVal, hv, asAddr, comp, SV.den] using hr
    · cases h
theorem result_sound {fn : Func} {σ : St} {env : Env} {β : Nat → Nat} {a : Act} {w : World} (hs : Sat X σ env β a w) {s : SV} (h : resultSV X.P fn σ = some s) : (results fn a.tmps).run X.P w = .ok (s.den env β) w := by
  simp only [resultSV, Option.bind_eq_bind] at h
  cases hl : fn.results.toList.mapM (resComp X.P σ) with
  | none => simp [hl] at h
  | some l =>
  simp only [hl, Option.bind_some] at h
  have key : ∀ (rs : List ResultVar) (l : List (List At × Bool)), rs.mapM (resComp X.P σ) = some l →
      (rs.mapM (resVal a.tmps)).run X.P w = .ok (l.map (comp env β)) w := by
    intro rs
    induction rs with
    | nil => intro l h; simp at h; subst h; simp
    | cons r rs ih =>
      intro l h
      simp only [List.mapM_cons, Option.bind_eq_bind, Option.pure_def] at h
      cases h1 : resComp X.P σ r with
      | none => simp [h1] at h
      | some p =>
      cases h2 : rs.mapM (resComp X.P σ) with
      | none => simp [h1, h2] at h
      | some ps =>
      simp [h1, h2] at h
      subst h
      have e1 := resComp_sound hs h1
      have e2 := ih ps h2
      simp only [List.mapM_cons, Sem.run_bind, e1, Result.andThen_ok, e2, Sem.run_pure, List.map_cons]
  have hk := key _ _ hl
  have hmap : (fn.results.mapM (resVal a.tmps)).run X.P w = .ok (l.map (comp env β)).toArray w := by
    rw [Array.mapM_eq_mapM_toList, Sem.run_map, hk]
    simp
  rw [results_eq, Sem.run_bind, hmap]
  simp only [Result.andThen_ok, Sem.run_pure]
  split at h
  · simp only [Option.some.injEq] at h; subst h; rfl
  · simp only [Option.some.injEq] at h; subst h; rfl
  · cases h
  · rename_i h1 h2 h3
    simp only [Option.some.injEq] at h
    subst h
    have hne : ¬ (l.map (comp env β)).toArray.size = 1 := by
      simp only [List.size_toArray, List.length_map]
      intro h0
      match l, h0 with
      | [p], _ =>
        obtain ⟨q, b⟩ := p
        exact h3 _ rfl
    rw [dif_neg hne]
    rfl
theorem leaves_noop {P : Program} {fn : Func} {tmps : Array Value} {R : Ending → World → Prop} {w : World} : ∀ (ds : List Deferred), (∀ d ∈ ds, NoOp P d) → (∃ v, (results fn tmps).run P w = .ok v w ∧ R (.returned v) w) → Leaves P fn tmps R ds .returning w
  | [], _, h => h
  | d :: ds, hd, h => by
    obtain ⟨fv, cap, f, args, h1, h2, h3⟩ := hd d (by simp)
    refine ⟨fun h => by (cases h), fv, cap, f, args, h1, h2 w, ?_⟩
    intro c cs hm
    obtain ⟨e, u', w', fr, ⟨⟨v, rfl⟩, rfl, rfl⟩, hr⟩ := h3 w c cs hm
    exact ⟨_, _, _, fr, leaves_noop ds (fun d h => hd d (by simp [h])) h, hr⟩
/-- **A tree that holds: the call returns, and what it returns is as the tree's ends say.** -/
theorem run_sound (G : Good X A) {f : FuncId} {args : List SV} {blocks : List (Option Blk)} {gl : List (Nat × Nat)} {ne : Nat} {env : Env} {β : Nat → Nat}
    (hm : Mem X ⟨true, ne - 1, []⟩ blocks gl env β X.w0)
    (hd : (run X.P A f args blocks gl ne).den X env ne β blocks.length (fun _ _ _ => False)) :
    Calls X.P f (args.map (·.den env β)).toArray X.w0 fun e w' => ∃ v, e = .returned v ∧ X.R v w' := by
  unfold run at hd
  split at hd
  · simp only [T.den] at hd
  · rename_i fn hfn
    split at hd
    · simp only [T.den] at hd
    · rename_i c hc
      simp only at hd
      split at hd
      · simp only [T.den] at hd
      · rename_i hok
        have hok : (wf ⟨args.map (⟨·, []⟩) ++ List.replicate (fn.ntmps - args.length) ⟨.x (.c undef), []⟩, blocks, gl, ne, ⟨true, ne - 1, []⟩⟩ && args.all okSV && decide (args.length ≤ fn.ntmps)) = true := by simpa using hok
        simp only [Bool.and_eq_true, decide_eq_true_eq] at hok
        obtain ⟨⟨hwf, hokA⟩, hlen⟩ := hok
        refine calls_of_wp_defers hfn hc ?_
        refine exec_sound G 2000 0 c _ _ env β _ X.w0 (fun _ _ _ => False) _ hwf ⟨hm, fun _ h => by (cases h), ?_, ?_⟩ hd ?_
        · simp
        · intro t sl hsl hokS
          simp only at hsl
          rw [List.getElem?_append] at hsl
          rw [Array.getElem?_append]
          simp only [List.length_map, List.size_toArray] at hsl ⊢
          split at hsl
          · rename_i hlt
            rw [if_pos hlt]
            simp only [List.getElem?_map] at hsl
            cases hg : args[t]? with
            | none => simp [hg] at hsl
            | some s =>
              simp [hg] at hsl
              subst hsl
              exact ⟨fun _ => by simp [hg], fun hc => absurd (conds_nil _ _) hc⟩
          · rename_i hge
            rw [if_neg hge]
            rw [List.getElem?_replicate] at hsl
            split at hsl
            · rename_i hlt
              simp only [Option.some.injEq] at hsl
              subst hsl
              refine ⟨fun _ => ?_, fun hc => absurd (conds_nil _ _) hc⟩
              rw [Array.getElem?_replicate, if_pos hlt]
              rfl
            · cases hsl
        · intro e σ' env' β' a' w' ls' h1 h2 h3 h4 h5
          have hend : ∀ (e : Exit), (e = .normal ∨ e = .ret) → (match resultSV X.P fn σ' with | some s => if σ'.sy.live then T.ret s σ'.sy (if (svB s).isEmpty && !clo fn then [] else knownBl σ'.blocks 0) else .fail 25 | none => .fail 15).den X env' σ'.ne β' σ'.blocks.length ls' →
              bodyPostD X.P fn (fun e w' => ∃ v, e = .returned v ∧ X.R v w') e a' w' := by
            intro e he hdd
            split at hdd
            · rename_i s hs
              split at hdd
              · rename_i hlive
                simp only [T.den] at hdd
                have hR := hdd w' (h2.mem.known hlive (fun kb h => by
                  split at h
                  · cases h
                  · have := (knownBl_get _ 0 kb h).2; simpa using this))
                rcases he with rfl | rfl
                · exact leaves_noop _ h2.defers ⟨_, result_sound h2 hs, _, rfl, hR⟩
                · exact leaves_noop _ h2.defers ⟨_, result_sound h2 hs, _, rfl, hR⟩
              · simp only [T.den] at hdd
            · simp only [T.den] at hdd
          cases e with
          | normal => exact hend _ (.inl rfl) h5
          | exit id => simp only [T.den] at h5
          | ret => exact hend _ (.inr rfl) h5
end
end Go.Vc

/-
  The engine's face: names for what nodes say, and rules for them.
-/
namespace Go.Vc
open Go Go.RowKit
def rBin (P : Program) (op : BinOp) (t : TypeId) (cx cy : Bool) (x y v : Value) : Prop := Runs P (binSem op t cx cy x y) v
def rUn (P : Program) (op : UnOp) (x v : Value) : Prop := Runs P (Op.unary op x) v
def rConv (P : Program) (s d : TypeId) (x v : Value) : Prop := Runs P (convert s d x) v
def rExt (P : Program) (x : Value) (i : Nat) (v : Value) : Prop := Runs P (Instr.extract x i) v
def rIad (P : Program) (t : TypeId) (x i v : Value) : Prop := Runs P (Instr.indexAt t x i) v
def rFad (P : Program) (t : TypeId) (x : Value) (f : Nat) (v : Value) : Prop := Runs P (Instr.fieldAt t x f) v
def rBld (P : Program) (t : TypeId) (parts : Array (Nat × Value)) (v : Value) : Prop := Runs P (Instr.build t parts) v
def rLen (P : Program) (t : TypeId) (x v : Value) : Prop := Runs P (Builtin.len_ #[t] 3 #[x]) v
def rPick (c a b v : Value) : Prop := (c = .bool true → v = a) ∧ (c = .bool false → v = b) ∧ ∃ t, c = .bool t
def rGen (P : Program) (op : Op) (ty : TypeId) (args : List (Nat × Value)) (v : Value) : Prop := RunsN P (execOp (argsFn args) ⟨none, op, ty, "", #[], none⟩) v
def rSel (c : Array Value) (pos m : Nat) (agg : Bool) (v : Value) : Prop := pos + m ≤ c.size ∧ v = (if agg then .agg (c.extract pos (pos + m)) else c.getD pos undef)
def rUpd (c : Array Value) (pos m : Nat) (x v : Value) : Prop := pos + m ≤ c.size ∧ x.cells.size = m ∧ x.cells.all (·.oneCell') = true ∧ v = .agg (splice c pos x.cells.toList)
def rAgg (n : Nat) (x v : Value) : Prop := v = x ∧ ∃ arr : Array Value, x = .agg arr ∧ arr.size = n ∧ arr.all (·.oneCell') = true
def rPlain (x v : Value) : Prop := v = x ∧ x.oneCell' = true
def rIx (n : Nat) (x v : Value) : Prop := v = x ∧ ∃ k i, x = .int k i ∧ 0 ≤ i ∧ i < (n : Int)
def rLoad (X : Ctx) (u : World) (ow : List Nat) (t : TypeId) (x v : Value) : Prop := ∀ w, KnownV X u ow [] w → (Instr.loadAt t x).run X.P w = .ok v w
/-- The call ends, and what it hands back is as wanted. -/
def Ret (X : Ctx) (u : World) (ow : List Nat) (bl : List KB) (v : Value) : Prop := ∀ w, KnownV X u ow bl w → X.R v w
/-- An effect: what it is, from which worlds; what it yields. -/
def preEff (X : Ctx) (u : World) (ow : List Nat) (bl : List KB) (md : Bool) (op : Op) (ty : TypeId) (args : List (Nat × Value)) : Prop :=
  ∀ w, KnownV X u ow bl w → ∃ v w', (execOp (argsFn args) ⟨none, op, ty, "", #[], none⟩).run X.P w = .ok (effOut op v) w' ∧ Keeps X md (bl.map (·.b)) w w'
def rEff (X : Ctx) (u : World) (ow : List Nat) (bl : List KB) (op : Op) (ty : TypeId) (args : List (Nat × Value)) (v : Value) (w' : World) : Prop :=
  ∃ w, KnownV X u ow bl w ∧ (execOp (argsFn args) ⟨none, op, ty, "", #[], none⟩).run X.P w = .ok (effOut op v) w'
def preCall (X : Ctx) (u : World) (ow : List Nat) (bl : List KB) (md : Bool) (f : Nat) (args : List Value) : Prop :=
  ∀ w, KnownV X u ow bl w → X.S.preW f args w ∧ ∀ b, X.S.modW f args w b → md = true ∧ X.mine b ∧ b ∉ bl.map (·.b)
def rCall (X : Ctx) (u : World) (ow : List Nat) (bl : List KB) (f : Nat) (args : List Value) (v : Value) (w' : World) : Prop :=
  ∃ w, KnownV X u ow bl w ∧ X.S.postW f args w v w'
/-- A call of a func value. -/
def preCallV (X : Ctx) (u : World) (ow : List Nat) (bl : List KB) (md : Bool) (x : Value) (args : List Value) : Prop :=
  ∃ f p q, x = .func (.func f) p q ∧ (∀ args w, (callFunc f args).run X.P w = .ok (.enter f args) w) ∧
    ∀ w, KnownV X u ow bl w → X.S.preW f (p.toList ++ args ++ q.toList) w ∧ ∀ b, X.S.modW f (p.toList ++ args ++ q.toList) w b → md = true ∧ X.mine b ∧ b ∉ bl.map (·.b)
def rCallV (X : Ctx) (u : World) (ow : List Nat) (bl : List KB) (x : Value) (args : List Value) (v : Value) (w' : World) : Prop :=
  ∃ w f p q, KnownV X u ow bl w ∧ x = .func (.func f) p q ∧ X.S.postW f (p.toList ++ args ++ q.toList) w v w'
def Ask (R K : Value → Prop) : Prop := (∃ v : Val, R v.1) ∧ ∀ v : Val, R v.1 → K v.1
def AskC (pre : Prop) (R K : Value → Prop) : Prop := pre ∧ ∀ v : Val, R v.1 → K v.1
def AskE (pre : Prop) (R K : Value → World → Prop) : Prop := pre ∧ ∀ v : Val, R v.1 v.2 → K v.1 v.2
def AskG (g : List (Value × Bool)) (R K : Value → Prop) : Prop := (condsV g → ∃ v : Val, R v.1) ∧ ∀ v : Val, (condsV g → R v.1) ∧ (¬ condsV g → True) → K v.1
def AskGC (g : List (Value × Bool)) (pre : Prop) (R K : Value → Prop) : Prop := (condsV g → pre) ∧ ∀ v : Val, (condsV g → R v.1) ∧ (¬ condsV g → True) → K v.1
def AskGE (g : List (Value × Bool)) (u : World) (pre : Prop) (R K : Value → World → Prop) : Prop := (condsV g → pre) ∧ ∀ v : Val, (condsV g → R v.1 v.2) ∧ (¬ condsV g → v.2 = u) → K v.1 v.2
def AskNew (u : World) (K : Nat → Prop) : Prop := ∀ b, u.heap.size ≤ b → K b
def Again (X : Ctx) (u : World) (ow : List Nat) (bl : List KB) (K : World → Prop) : Prop := ∀ w, KnownV X u ow bl w → K w
theorem ask_eq {R K : Value → Prop} {e : Value} (h : ∀ v, R v ↔ v = e) : Ask R K = K e := by
  unfold Ask
  apply propext
  simp only [h]
  exact ⟨fun hk => hk.2 (e, default) rfl, fun hk => ⟨⟨(e, default), rfl⟩, fun _ hv => hv ▸ hk⟩⟩
theorem askC_intro {pre : Prop} {R K : Value → Prop} (h1 : pre) (h2 : ∀ v, R v → K v) : AskC pre R K := ⟨h1, fun v hv => h2 v.1 hv⟩
theorem askE_intro {pre : Prop} {R K : Value → World → Prop} (h1 : pre) (h2 : ∀ v w, R v w → K v w) : AskE pre R K := ⟨h1, fun v hv => h2 v.1 v.2 hv⟩
theorem runs_iff {P : Program} {s : Sem Value} {e : Value} (h : ∀ w, s.run P w = .ok e w) (v : Value) : Runs P s v ↔ v = e := by
  refine ⟨fun hv => ?_, fun he w => he ▸ h w⟩
  have := hv default
  rw [h default] at this
  cases this; rfl
theorem runsN_iff {P : Program} {s : Sem Next} {e : Value} (h : ∀ w, s.run P w = .ok (.value e) w) (v : Value) : RunsN P s v ↔ v = e := by
  refine ⟨fun hv => ?_, fun he w => he ▸ h w⟩
  have := hv default
  rw [h default] at this
  cases this; rfl
section rules
variable {P : Program} {K : Value → Prop} {t : TypeId} {cx cy : Bool} {k : IntKind} {a b : Int}
theorem ask_add : Ask (rBin P .add t cx cy (.int k a) (.int k b)) K = K (.int k (k.wrap (a + b))) := ask_eq (runs_iff fun w => by simp [binSem, eqGuard, binOp, Op.intArith])
theorem ask_sub : Ask (rBin P .sub t cx cy (.int k a) (.int k b)) K = K (.int k (k.wrap (a - b))) := ask_eq (runs_iff fun w => by simp [binSem, eqGuard, binOp, Op.intArith])
theorem ask_mul : Ask (rBin P .mul t cx cy (.int k a) (.int k b)) K = K (.int k (k.wrap (a * b))) := ask_eq (runs_iff fun w => by simp [binSem, eqGuard, binOp, Op.intArith])
theorem ask_lss : Ask (rBin P .lss t cx cy (.int k a) (.int k b)) K = K (.bool (decide (a < b))) := ask_eq (runs_iff fun w => by simp [binSem, eqGuard, binOp, Op.intCmp])
theorem ask_leq : Ask (rBin P .leq t cx cy (.int k a) (.int k b)) K = K (.bool (decide (a ≤ b))) := ask_eq (runs_iff fun w => by simp [binSem, eqGuard, binOp, Op.intCmp])
theorem ask_gtr : Ask (rBin P .gtr t cx cy (.int k a) (.int k b)) K = K (.bool (decide (b < a))) := ask_eq (runs_iff fun w => by simp [binSem, eqGuard, binOp, Op.intCmp])
theorem ask_geq : Ask (rBin P .geq t cx cy (.int k a) (.int k b)) K = K (.bool (decide (b ≤ a))) := ask_eq (runs_iff fun w => by simp [binSem, eqGuard, binOp, Op.intCmp])
theorem ask_eql : Ask (rBin P .eql t cx cy (.int k a) (.int k b)) K = K (.bool (a == b)) := ask_eq (runs_iff fun w => by simp [binSem, eqGuard, binOp, Op.intCmp])
theorem ask_neq : Ask (rBin P .neq t cx cy (.int k a) (.int k b)) K = K (.bool (a != b)) := ask_eq (runs_iff fun w => by simp [binSem, eqGuard, binOp, Op.intCmp])
theorem ask_and : Ask (rBin P .and t cx cy (.int k a) (.int k b)) K = K (.int k (k.wrap (BitVec.ofInt k.bits a &&& BitVec.ofInt k.bits b).toNat)) := ask_eq (runs_iff fun w => by simp [binSem, eqGuard, binOp, Op.intBits])
theorem ask_or : Ask (rBin P .or t cx cy (.int k a) (.int k b)) K = K (.int k (k.wrap (BitVec.ofInt k.bits a ||| BitVec.ofInt k.bits b).toNat)) := ask_eq (runs_iff fun w => by simp [binSem, eqGuard, binOp, Op.intBits])
theorem ask_andNot : Ask (rBin P .andNot t cx cy (.int k a) (.int k b)) K = K (.int k (k.wrap (BitVec.ofInt k.bits a &&& ~~~ BitVec.ofInt k.bits b).toNat)) := ask_eq (runs_iff fun w => by simp [binSem, eqGuard, binOp, Op.intBits])
theorem ask_ext {vs : Array Value} {i : Nat} {v : Value} (h : vs[i]? = some v) : Ask (rExt P (.tuple vs) i) K = K v := ask_eq (runs_iff fun w => by simp [Instr.extract, h])
theorem ask_plain {x : Value} (h : x.oneCell' = true) : Ask (rPlain x) K = K x := ask_eq fun _ => ⟨fun hv => hv.1, fun hv => ⟨hv, h⟩⟩
theorem ask_agg {n : Nat} {arr : Array Value} (h1 : arr.size = n) (h2 : arr.all (·.oneCell') = true) : Ask (rAgg n (.agg arr)) K = K (.agg arr) := ask_eq fun _ => ⟨fun hv => hv.1, fun hv => ⟨hv, arr, rfl, h1, h2⟩⟩
theorem ask_not {x : Bool} : Ask (rUn P .not (.bool x)) K = K (.bool !x) := ask_eq (runs_iff fun w => by simp [Op.unary])
theorem ask_neg : Ask (rUn P .neg (.int k a)) K = K (.int k (k.wrap (0 - a))) := ask_eq (runs_iff fun w => by simp [Op.unary, Op.intArith])
theorem ask_sel1 {c : Array Value} {pos : Nat} {v : Value} (h : c[pos]? = some v) : Ask (rSel c pos 1 false) K = K v := ask_eq fun u => by
  have hlt : pos < c.size := by
    rcases Nat.lt_or_ge pos c.size with h' | h'
    · exact h'
    · rw [Array.getElem?_eq_none h'] at h; cases h
  have hv : c.getD pos undef = v := by simp [Array.getD, hlt]; rw [Array.getElem?_eq_getElem hlt] at h; simpa using h
  unfold rSel
  simp only [Bool.false_eq_true, if_false, hv]
  exact ⟨fun h => h.2, fun h => ⟨by omega, h⟩⟩
end rules
end Go.Vc
