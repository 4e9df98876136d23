/-
  A drawn region with effects that do not wait for one another: it holds if it holds in both orders.
-/
import Derived.Test.YtadnlcennghlbaaVcDraw4
namespace Go.Vc
open Go
/-- An order in which the operations may come up. -/
inductive Path (ops : Array Oper) : Array Bool → List Nat → Prop
  | nil {listed : Array Bool} : Region.ready .any ops listed = [] → Path ops listed []
  | cons {listed : Array Bool} {i : Nat} {l : List Nat} : i ∈ Region.ready .any ops listed → Path ops (listed.setIfInBounds i true) l → Path ops listed (i :: l)
section
variable {P : Program} {ops ops' : Array Oper} {Q : Exit → Act → World → Prop}
theorem path_wp : ∀ (L : List Nat) (fuel : Nat) (listed : Array Bool) (a : Act) (w : World), wpAny P .any ops Q fuel listed a w → Path ops listed L → wpOps P ops Q L a w
  | [], 0, _, _, _, h, _ => h.2
  | [], _ + 1, _, _, _, h, hp => by cases hp with | nil hr => exact h.1 hr
  | i :: L, 0, _, _, _, h, hp => by
    cases hp with
    | cons hi _ => rw [h.1] at hi; cases hi
  | i :: L, fuel + 1, listed, a, w, h, hp => by
    cases hp with
    | cons hi hp =>
      rw [wpOps_cons]
      exact wpOp_mono (fun a' w' h' => path_wp L fuel _ a' w' h' hp) (h.2 i hi)
theorem getD_set (l : Array Bool) (i x : Nat) (d : Bool) : (l.setIfInBounds i true).getD x d = if x = i ∧ i < l.size then true else l.getD x d := by
  rw [Array.getD_eq_getD_getElem?, Array.getD_eq_getD_getElem?, Array.getElem?_setIfInBounds]
  by_cases h : i = x
  · subst h
    by_cases h2 : i < l.size
    · simp [h2]
    · simp [h2]
  · simp [h, Ne.symm h]
theorem ready_lt {listed : Array Bool} {i : Nat} (h : i ∈ Region.ready .any ops listed) (hsz : listed.size = ops.size) : i < listed.size := by
  obtain ⟨_, o, ho, _⟩ := mem_ready.1 h
  rw [hsz]; exact (Array.getElem?_eq_some_iff.1 ho).1
/-! ### one edge more -/
theorem add_get (j i k : Nat) : (addAfter ops j i)[k]? = (ops[k]?).map fun o => if k = j then { o with after := o.after.push ⟨i, .data⟩ } else o := by
  unfold addAfter
  rw [Array.getElem?_modify]
  by_cases h : j = k
  · subst h; simp
  · rw [if_neg h]
    cases ops[k]? with
    | none => rfl
    | some o => simp [Ne.symm h]
theorem add_size (j i : Nat) : (addAfter ops j i).size = ops.size := by simp [addAfter]
theorem add_ready {listed : Array Bool} {i j x : Nat} : x ∈ Region.ready .any (addAfter ops j i) listed ↔ x ∈ Region.ready .any ops listed ∧ (x = j → listed.getD i false = true) := by
  rw [mem_ready, mem_ready, add_get]
  cases ho : ops[x]? with
  | none => simp
  | some o =>
    by_cases hx : x = j
    · subst hx
      simp only [Option.map_some, if_pos, Option.some.injEq, exists_eq_left', forall_const]
      constructor
      · rintro ⟨h0, h⟩
        exact ⟨⟨h0, fun e he hb => h e (by simp [he]) hb⟩, h ⟨i, .data⟩ (by simp) rfl⟩
      · rintro ⟨⟨h0, h⟩, h1⟩
        refine ⟨h0, fun e he hb => ?_⟩
        rcases Array.mem_push.1 he with he | rfl
        · exact h e he hb
        · exact h1
    · simp [hx]
theorem path_done {i j : Nat} : ∀ (L : List Nat) (listed : Array Bool), listed.getD i false = true → Path ops listed L → Path (addAfter ops j i) listed L
  | [], _, _, .nil hr => .nil (List.eq_nil_iff_forall_not_mem.2 fun x hx => by have := (add_ready.1 hx).1; rw [hr] at this; cases this)
  | x :: L, listed, h, .cons hx hp => .cons (add_ready.2 ⟨hx, fun _ => h⟩) (path_done L _ (by rw [getD_set]; split <;> first | rfl | exact h) hp)
theorem path_split {i j : Nat} (hij : i ≠ j) : ∀ (L : List Nat) (listed : Array Bool), listed.size = ops.size → Path ops listed L → Path (addAfter ops j i) listed L ∨ Path (addAfter ops i j) listed L
  | [], _, _, .nil hr => .inl (.nil (List.eq_nil_iff_forall_not_mem.2 fun x hx => by have := (add_ready.1 hx).1; rw [hr] at this; cases this))
  | x :: L, listed, hsz, .cons hx hp => by
    have hlt := ready_lt hx hsz
    by_cases hi : x = i
    · subst hi
      exact .inl (.cons (add_ready.2 ⟨hx, fun h => absurd h hij⟩) (path_done L _ (by rw [getD_set, if_pos ⟨rfl, hlt⟩]) hp))
    · by_cases hj : x = j
      · subst hj
        exact .inr (.cons (add_ready.2 ⟨hx, fun h => absurd h hi⟩) (path_done L _ (by rw [getD_set, if_pos ⟨rfl, hlt⟩]) hp))
      · rcases path_split hij L _ (by simpa using hsz) hp with h | h
        · exact .inl (.cons (add_ready.2 ⟨hx, fun h => absurd h hj⟩) h)
        · exact .inr (.cons (add_ready.2 ⟨hx, fun h => absurd h hi⟩) h)
/-! ### the same operations under other numbers -/
/-- q tells each operation's number among the others. -/
def SameOps (q : Nat → Nat) (ops ops' : Array Oper) : Prop := ∀ (i : Nat) (o : Oper), ops[i]? = some o → ∃ o', ops'[q i]? = some o' ∧ o'.dst = o.dst ∧ o'.op = o.op ∧ o'.type = o.type ∧ o'.pos = o.pos ∧
  (match o.guard with | none => o'.guard = none | some (g, b) => o'.guard = some (q g, b) ∧ (ops'[q g]?).bind (·.dst) = (ops[g]?).bind (·.dst))
theorem execOp_same {ev : Operand → Value} {o o' : Oper} (h1 : o'.dst = o.dst) (h2 : o'.op = o.op) (h3 : o'.type = o.type) (h4 : o'.pos = o.pos) : execOp ev o' = execOp ev o := by
  obtain ⟨d, op, t, p, a, g⟩ := o
  obtain ⟨d', op', t', p', a', g'⟩ := o'
  simp only at h1 h2 h3 h4
  subst h1 h2 h3 h4
  cases op' <;> rfl
theorem wpOps_same {q : Nat → Nat} (hs : SameOps q ops ops') : ∀ (L : List Nat) (a : Act) (w : World), (∀ i ∈ L, i < ops.size) → wpOps P ops' Q (L.map q) a w → wpOps P ops Q L a w
  | [], _, _, _, h => h
  | i :: L, a, w, hL, h => by
    have ih := fun a w => wpOps_same hs L a w fun k hk => hL k (List.mem_cons_of_mem _ hk)
    obtain ⟨oi, hi⟩ : ∃ o, ops[i]? = some o := ⟨_, Array.getElem?_eq_getElem (hL i List.mem_cons_self)⟩
    obtain ⟨o', ho', e1, e2, e3, e4, eg⟩ := hs i _ hi
    have hw : Region.wanted o' (yielded ops' a.tmps) = Region.wanted oi (yielded ops a.tmps) := by
      unfold Region.wanted
      revert eg
      cases oi.guard with
      | none => intro eg; rw [eg]
      | some gb =>
        obtain ⟨g, b⟩ := gb
        intro eg
        rw [eg.1]
        simp only [yielded, eg.2]
    have hx : ∀ ev, execOp ev o' = execOp ev oi := fun ev => execOp_same e1 e2 e3 e4
    rw [List.map_cons] at h
    simp only [wpOps, ho', hi] at h ⊢
    rw [hw] at h
    split
    · rename_i hwt
      rw [if_pos hwt] at h
      rcases h with h | ⟨h1, h2⟩
      · refine .inl ?_
        unfold Oper.wp at h ⊢
        rw [hx] at h
        generalize (execOp a.eval oi).run P w = res at h ⊢
        cases res with
        | ok n w' =>
          cases n with
          | value v => simp only [Oper.upon] at h ⊢; rw [e1] at h; exact ih _ _ h
          | skip => simp only [Oper.upon] at h ⊢; rw [e1] at h; exact ih _ _ h
          | defer d => simp only [Oper.upon] at h ⊢; rw [e1] at h; exact ih _ _ h
          | enter f args =>
            simp only [Oper.upon] at h ⊢
            refine h.mono fun e w'' h => ?_
            cases e with
            | returned v => simp only at h ⊢; rw [e1] at h; exact ih _ _ h
            | panicked c => exact h
            | outgrown => exact h
          | row r args => simp only [Oper.upon] at h ⊢; exact h.mono fun v w'' h => by rw [e1] at h; exact ih _ _ h
          | _ => exact h
        | halt s w' => cases s <;> exact h
      · refine .inr ⟨?_, h2⟩
        unfold Oper.asks at h1 ⊢
        rw [hx] at h1
        exact h1
    · rename_i hwt
      rw [if_neg hwt] at h
      rw [e1] at h
      exact ih _ _ h
theorem same_add (j i : Nat) : SameOps id ops (addAfter ops j i) := fun k o ho => by
  refine ⟨if k = j then { o with after := o.after.push ⟨i, .data⟩ } else o, by rw [id, add_get, ho]; rfl, ?_⟩
  have hg : ∀ g : Nat, ((addAfter ops j i)[g]?).bind (fun o : Oper => o.dst) = (ops[g]?).bind (fun o : Oper => o.dst) := fun g => by
    rw [add_get]
    cases ops[g]? with
    | none => rfl
    | some o => simp only [Option.map_some, Option.bind_some]; split <;> rfl
  split
  · refine ⟨rfl, rfl, rfl, rfl, ?_⟩
    cases h : o.guard with
    | none => simp
    | some gb => simp [hg]
  · refine ⟨rfl, rfl, rfl, rfl, ?_⟩
    cases h : o.guard with
    | none => simp
    | some gb => simp [hg]
/-! ### another order of the same operations -/
structure OkP (p : List Nat) (n : Nat) : Prop where
  len : p.length = n
  get_lt : ∀ i, i < n → p.getD i 0 < n
  inv_lt : ∀ i, i < n → invP p i < n
  inv_get : ∀ i, i < n → invP p (p.getD i 0) = i
  get_inv : ∀ i, i < n → p.getD (invP p i) 0 = i
theorem okP_of {p : List Nat} {n : Nat} (h : okPerm p n = true) : OkP p n := by
  simp only [okPerm, Bool.and_eq_true, beq_iff_eq, List.all_eq_true, decide_eq_true_eq, List.mem_range] at h
  exact ⟨h.1, fun i hi => (h.2 i hi).1.1.1, fun i hi => (h.2 i hi).1.1.2, fun i hi => (h.2 i hi).1.2, fun i hi => (h.2 i hi).2⟩
theorem perm_size {p : List Nat} : (permOps p ops).size = p.length := by simp [permOps]
theorem perm_get {p : List Nat} {n : Nat} (hp : OkP p n) (hn : ops.size = n) {i : Nat} {o : Oper} (h : ops[i]? = some o) : (permOps p ops)[invP p i]? = some (renOp p o) := by
  have hi : i < n := by rw [← hn]; exact (Array.getElem?_eq_some_iff.1 h).1
  have h1 := hp.inv_lt i hi
  have h2 := hp.get_inv i hi
  unfold permOps
  simp only [List.getElem?_toArray, List.getElem?_map]
  rw [List.getD_eq_getElem?_getD, List.getElem?_eq_getElem (by rw [hp.len]; exact h1)] at h2
  simp only [Option.getD_some] at h2
  rw [List.getElem?_eq_getElem (by rw [hp.len]; exact h1), h2]
  simp [Array.getD_eq_getD_getElem?, h]
theorem same_perm {p : List Nat} {n : Nat} (hp : OkP p n) (hn : ops.size = n) : SameOps (invP p) ops (permOps p ops) := fun i o ho => by
  refine ⟨renOp p o, perm_get hp hn ho, rfl, rfl, rfl, rfl, ?_⟩
  cases h : o.guard with
  | none => simp [renOp, h]
  | some gb =>
    obtain ⟨g, b⟩ := gb
    refine ⟨by simp [renOp, h], ?_⟩
    cases hg : ops[g]? with
    | some og => rw [perm_get hp hn hg]; rfl
    | none =>
      have hge : n ≤ g := by rw [← hn]; exact Array.getElem?_eq_none_iff.1 hg
      have : invP p g = g := by unfold invP; rw [if_neg (by rw [hp.len]; omega)]
      rw [this, Array.getElem?_eq_none (by rw [perm_size, hp.len]; exact hge)]
theorem path_perm {p : List Nat} {n : Nat} (hp : OkP p n) (hn : ops.size = n) : ∀ (L : List Nat) (listed listed' : Array Bool), listed.size = n → listed'.size = n → (∀ i, i < n → listed'.getD (invP p i) false = listed.getD i false) →
    Path ops listed L → Path (permOps p ops) listed' (L.map (invP p))
  | L, listed, listed', hs, hs', he, hpath => by
    have hdef : ∀ (l : Array Bool) x, l.size = n → x < n → l.getD x true = l.getD x false := fun l x hl hx => by
      rw [Array.getD_eq_getD_getElem?, Array.getD_eq_getD_getElem?, Array.getElem?_eq_getElem (by omega)]; rfl
    have hout : ∀ (l : Array Bool) x, l.size = n → n ≤ x → l.getD x false = false := fun l x hl hx => by
      rw [Array.getD_eq_getD_getElem?, Array.getElem?_eq_none (by omega)]; rfl
    have hall : ∀ x, listed'.getD (invP p x) false = listed.getD x false := fun x => by
      rcases Nat.lt_or_ge x n with h | h
      · exact he x h
      · have : invP p x = x := by unfold invP; rw [if_neg (by rw [hp.len]; omega)]
        rw [this, hout _ _ hs h, hout _ _ hs' h]
    have hmem : ∀ i, i < n → (invP p i ∈ Region.ready .any (permOps p ops) listed' ↔ i ∈ Region.ready .any ops listed) := fun i hi => by
      rw [mem_ready, mem_ready]
      have hio : ops[i]? = some ops[i] := Array.getElem?_eq_getElem (by omega)
      rw [perm_get hp hn hio, hio, hdef _ _ hs' (hp.inv_lt i hi), hdef _ _ hs hi, hall]
      simp only [Option.some.injEq, exists_eq_left', renOp, Array.mem_map, forall_exists_index, and_imp, forall_apply_eq_imp_iff₂]
      constructor
      · rintro ⟨h0, h⟩
        exact ⟨h0, fun e he hb => by rw [← hall]; exact h e he hb⟩
      · rintro ⟨h0, h⟩
        exact ⟨h0, fun e he hb => by rw [hall]; exact h e he hb⟩
    cases hpath with
    | nil hr =>
      refine .nil (List.eq_nil_iff_forall_not_mem.2 fun k hk => ?_)
      have hkn : k < n := by have := ready_lt hk (by rw [hs', perm_size, hp.len]); omega
      have h1 := hp.inv_get k hkn
      rw [← h1] at hk
      have := (hmem _ (hp.get_lt k hkn)).1 hk
      rw [hr] at this; cases this
    | cons hi hpath =>
      rename_i i L
      have hin : i < n := by have := ready_lt hi (by rw [hs, hn]); omega
      refine .cons ((hmem i hin).2 hi) (path_perm hp hn L _ _ (by simpa using hs) (by simpa using hs') (fun x hx => ?_) hpath)
      rw [getD_set, getD_set, hs, hs', he x hx]
      have : (invP p x = invP p i ∧ invP p i < n) ↔ (x = i ∧ i < n) := by
        constructor
        · rintro ⟨h1, _⟩
          refine ⟨?_, hin⟩
          rw [← hp.get_inv x hx, h1, hp.get_inv i hin]
        · rintro ⟨rfl, _⟩
          exact ⟨rfl, hp.inv_lt _ hin⟩
      simp only [this]
/-! ### the region -/
theorem path_mem : ∀ (L : List Nat) (listed : Array Bool), listed.size = ops.size → Path ops listed L → ∀ i ∈ L, i < ops.size
  | [], _, _, _, _, h => by cases h
  | x :: L, listed, hsz, .cons hx hp, i, hi => by
    rcases List.mem_cons.1 hi with rfl | hi
    · have := ready_lt hx hsz; omega
    · exact path_mem L _ (by simpa using hsz) hp i hi
/-- In whatever order. -/
def AllOrd (P : Program) (ops : Array Oper) (Q : Exit → Act → World → Prop) (a : Act) (w : World) : Prop := ∀ L, Path ops (Array.replicate ops.size false) L → wpOps P ops Q L a w
theorem allOrd_any {a : Act} {w : World} (h : wpAny P .any ops Q ops.size (Array.replicate ops.size false) a w) : AllOrd P ops Q a w := fun L hL => path_wp L _ _ a w h hL
theorem allOrd_perm {p : List Nat} {a : Act} {w : World} (hp : OkP p ops.size) (h : AllOrd P (permOps p ops) Q a w) : AllOrd P ops Q a w := fun L hL =>
  wpOps_same (same_perm hp rfl) L a w (path_mem L _ (by simp) hL) (h _ (path_perm hp rfl L _ _ (by simp) (by simp [perm_size, hp.len]) (fun i hi => by
    have h1 := hp.inv_lt i hi
    simp [Array.getD_eq_getD_getElem?, perm_size, hp.len, hi, h1]) hL))
theorem allOrd_both {i j : Nat} (hij : i ≠ j) {a : Act} {w : World} (h1 : AllOrd P (addAfter ops j i) Q a w) (h2 : AllOrd P (addAfter ops i j) Q a w) : AllOrd P ops Q a w := fun L hL => by
  have hm := path_mem L _ (by simp) hL
  have e : L.map id = L := List.map_id L
  rcases path_split hij L _ (by simp) hL with h | h
  · refine wpOps_same (same_add j i) L a w hm ?_
    rw [e]; exact h1 L (by rw [add_size]; exact h)
  · refine wpOps_same (same_add i j) L a w hm ?_
    rw [e]; exact h2 L (by rw [add_size]; exact h)
theorem path_lin : ∀ (fuel t : Nat) (listed : Array Bool), listed.size = ops.size → (listed.toList.filter (! ·)).length ≤ fuel → Path ops listed (Region.linearise.go .any ops fuel t listed [])
  | 0, t, listed, hsz, hfu => .nil (List.eq_nil_iff_forall_not_mem.2 fun i hi => by
    obtain ⟨h0, o, ho, _⟩ := mem_ready.1 hi
    have hlt : i < listed.size := by rw [hsz]; exact (Array.getElem?_eq_some_iff.1 ho).1
    have h1 : listed.toList.filter (! ·) = [] := List.eq_nil_of_length_eq_zero (by omega)
    rw [List.filter_eq_nil_iff] at h1
    have := h1 (listed[i]) (by simp)
    rw [Array.getD_eq_getD_getElem?, Array.getElem?_eq_getElem hlt] at h0
    simp at h0
    simp [h0] at this)
  | fuel + 1, t, listed, hsz, hfu => by
    simp only [Region.linearise.go]
    split
    · rename_i i hi
      rw [linearise_go_acc]
      have hmem : i ∈ Region.ready .any ops listed := List.mem_of_getElem? hi
      have hlt := ready_lt hmem hsz
      have hli : listed[i] = false := by
        have h0 := (mem_ready.1 hmem).1
        rw [Array.getD_eq_getD_getElem?, Array.getElem?_eq_getElem hlt] at h0
        simpa using h0
      refine .cons hmem (path_lin fuel _ _ (by simpa using hsz) ?_)
      have key : ∀ (l : List Bool) (i : Nat) (h : i < l.length), l[i] = false → ((l.set i true).filter (! ·)).length + 1 = (l.filter (! ·)).length := by
        intro l
        induction l with
        | nil => intro i h; simp at h
        | cons b l ih =>
          intro i h hb
          cases i with
          | zero => simp at hb; subst hb; simp
          | succ i =>
            simp only [List.set_cons_succ]
            have := ih i (by simpa using h) (by simpa using hb)
            cases b <;> simp <;> simpa using this
      have := key listed.toList i (by simpa using hlt) (by simpa using hli)
      rw [Array.setIfInBounds_def, dif_pos hlt]
      simp only [Array.toList_set]
      omega
    · rename_i hi
      refine .nil (List.eq_nil_iff_forall_not_mem.2 fun x hx => ?_)
      have hpos : 0 < (Region.ready .any ops listed).length := List.length_pos_of_mem hx
      have hn : (Region.ready .any ops listed)[t % (Region.ready .any ops listed).length]? = none := hi
      rw [List.getElem?_eq_none_iff] at hn
      have := Nat.mod_lt t hpos
      omega
theorem region_all {id : Nat} {a : Act} {w : World} (hm : P.follows .mixedOrders = true) (h : AllOrd P ops Q a { w with drawn := w.drawn + 1 }) : (Code.region id ops true).wp P Q a w :=
  wp_region_draw fun t => by
    simp only [Region.schedule, hm, Bool.true_or, if_true]
    exact h _ (path_lin ops.size t _ (by simp) (by simp))
end
section
variable {X : Ctx} {A : Ann} {σ : St} {env : Env} {β : Nat → Nat} {a : Act} {w : World} {ls : Nat → List Value → World → Prop}
theorem execDrawN_sound (G : Good X A) {Q : Exit → Act → World → Prop} {K : St → T} {K' : Act → World → Prop} (hwf : wf σ = true) (hs : Sat X σ env β a w) (hK : Cont' X σ env β ls K K') (hQ : ∀ a w, K' a w → Q .normal a w) :
    ∀ (n : Nat) (ops : Array Oper), (execDrawN X.P A n ops σ K).den X env σ.ne β σ.blocks.length ls → AllOrd X.P ops Q a { w with drawn := w.drawn + 1 }
  | 0, ops, hden => allOrd_any (execDraw1_sound G hwf hs hden hK hQ)
  | n + 1, ops, hden => by
    unfold execDrawN at hden
    split at hden
    · exact allOrd_any (execDraw1_sound G hwf hs hden hK hQ)
    · rename_i i j _
      simp only at hden
      split at hden
      · rename_i hc
        simp only [Bool.and_eq_true, decide_eq_true_eq] at hc
        obtain ⟨⟨⟨h1, h2⟩, h3⟩, h4⟩ := hc
        simp only [T.den] at hden
        refine allOrd_both (i := i) (j := j) (by omega) (execDrawN_sound G hwf hs hK hQ n _ hden.1) (allOrd_perm (okP_of (by rw [add_size]; exact h4)) (execDrawN_sound G hwf hs hK hQ n _ hden.2))
      · simp only [T.den] at hden
theorem execDraw_sound (G : Good X A) {ops : Array Oper} {id : Nat} {Q : Exit → Act → World → Prop} {K : St → T} {K' : Act → World → Prop} (hwf : wf σ = true) (hs : Sat X σ env β a w)
    (hden : (execDraw X.P A ops σ K).den X env σ.ne β σ.blocks.length ls) (hK : Cont' X σ env β ls K K') (hQ : ∀ a w, K' a w → Q .normal a w) : (Code.region id ops true).wp X.P Q a w :=
  region_all G.mixed (execDrawN_sound G hwf hs hK hQ 6 ops hden)
end
end Go.Vc
