/-
  The engine is sound, part 3: stores, new blocks, addresses, arithmetic.
-/
import Derived.Test.YtadnlcennghlbaaVcSound2
namespace Go.Vc
open Go Go.RowKit
section
variable {X : Ctx} {σ : St} {env : Env} {β : Nat → Nat} {a : Act} {w : World} {g : List (At × Bool)}
theorem okE_lt {ne nb : Nat} {s : SV} (h : okE ne nb s = true) : (∀ e ∈ svE s, e < ne) ∧ ∀ b ∈ svB s, b < nb := by
  simp only [okE, Bool.and_eq_true, List.all_eq_true, decide_eq_true_eq] at h
  exact h
theorem cellsOf_den {ag : Bool} {s : SV} {l : List At} (h : cellsOf ag s = some l) (hp : ag = true ∨ l.all plainC = true ∧ ∀ u ∈ l.map (At.den env β), u.oneCell' = true) : (s.den env β).cells.toList = l.map (At.den env β) := by
  cases s with
  | x at_ =>
    cases ag with
    | true => simp [cellsOf] at h
    | false =>
      simp only [cellsOf, Bool.false_eq_true, if_false, Option.some.injEq] at h
      subst h
      rcases hp with hp | hp
      · cases hp
      · have := hp.2 (at_.den env β) (by simp)
        simp only [SV.den, List.map_cons, List.map_nil]
        cases hd : at_.den env β <;> simp [Value.cells] 
        rw [hd] at this; simp [Value.oneCell'] at this
  | l as =>
    cases ag with
    | true => simp only [cellsOf, if_true, Option.some.injEq] at h; subst h; simp [SV.den, Value.cells]
    | false => simp [cellsOf] at h
  | t ss => simp [cellsOf] at h
/-- What a store asks of the operation. -/
theorem store_exec {o : Oper} {t : TypeId} {xo yo : Operand} (ho : o.op = .store t xo yo) {x y : Value} (hx : a.eval xo = x) (hy : a.eval yo = y) {w' : World}
    (h : (Instr.storeAt t x y).run X.P w = .ok () w') : (execOp a.eval o).run X.P w = .ok .skip w' := by
  simp [execOp, ho, hx, hy, h]
theorem splA_den {l as : List At} {o : Nat} : ((splA l o as).map (At.den env β)).toArray = splice (l.map (At.den env β)).toArray o (as.map (At.den env β)) := by
  apply Array.ext'
  simp [splA, splice, List.map_take, List.map_drop]
theorem stepStore_sound (hs : Sat X σ env β a w) {o : Oper} {t : TypeId} {xo yo : Operand} (ho : o.op = .store t xo yo) {x y : SV} (hx : a.eval xo = x.den env β) (hy : a.eval yo = y.den env β)
    (hwe : ∀ e ∈ svE y, e < σ.ne) (hwf : wf σ = true) {r : Res} (h : stepStore X.P σ t x y = some r)
    (hp : PreChain X β r.nds env σ.ne) {K : Act → World → Prop} {Q : Exit → Act → World → Prop} (hK : After X σ env β a w o.dst r K) : o.wp X.P a w K Q := by
  unfold stepStore at h
  cases hn : sz X.P t with
  | none => simp [hn] at h
  | some n =>
  cases hag : agg? X.P t with
  | none => simp [hn, hag] at h
  | some ag =>
  simp only [hn, hag, Option.bind_eq_bind, Option.bind_some] at h
  have hblkE : ∀ (k : Nat) (b : Blk), blk? σ k = some b → ∀ e ∈ contE b.cont, e < σ.ne := fun k b hb e he => by
    have hb' := blk?_some hb
    have := (wf_parts hwf).2.1 (some b) (List.mem_of_getElem? hb')
    simp only [okB, okC, Bool.and_eq_true, List.all_eq_true, decide_eq_true_eq] at this
    exact this.1 e he
  split at h
  · rename_i b o'
    cases hb : blk? σ b with
    | none => simp [hb] at h
    | some bl =>
    simp only [hb, Option.bind_some] at h
    obtain ⟨hb1, hb2, hb3⟩ := hs.mem.blk b bl (blk?_some hb)
    split at h
    · cases h
    · rename_i hown
      have hown' : bl.own = true := by simpa using hown
      have hheap : w.heap[β b]? = some (.cells (bl.cont.den env β) bl.ty (0, 0)) := by simpa [Holds, hown'] using hb1
      have hex : ∀ (b' : Blk), b'.own = bl.own → b'.ty = bl.ty → b'.n = bl.n → ∃ b0, σ.blocks[b]? = some (some b0) ∧ b0.own = true ∧ b'.own = true ∧ b'.ty = b0.ty ∧ b'.n = b0.n :=
        fun b' h1 h2 h3 => ⟨bl, blk?_some hb, hown', by rw [h1, hown'], h2, h3⟩
      -- an 'upd' node
      have hupd : ∀ (ps : Pos), a.eval xo = .pointer (some ⟨β b, ps.den env, none⟩) → r = ⟨[.upd bl.cont ps n y], .setb b { bl with cont := .wh σ.ne }⟩ → o.wp X.P a w K Q := by
        intro ps hxp hr
        subst hr
        obtain ⟨v, hv⟩ : ∃ v, (Nd.upd bl.cont ps n y).den X env β v := hp.1
        obtain ⟨hv1, hv2, hv3, hv4⟩ := hv
        have hrun := store_run (X := X) (w := w) (o := ps.den env) hn hheap hv2 hv1 hv3
        have hsp : (splice (bl.cont.den env β) (ps.den env) (y.den env β).cells.toList).size = bl.n := by rw [splice_size (by rw [Array.length_toList, hv2]; exact hv1), hb2]
        have hw : updl env σ.ne [v] σ.ne = v := upd_same env σ.ne v
        refine wp_of_skip (store_exec ho hxp hy hrun) (hK [v] _ ⟨⟨hv1, hv2, hv3, hv4⟩, rfl⟩ ?_ ?_ (hex _ rfl rfl rfl) ?_)
        · show (aggArr (updl env σ.ne [v] σ.ne).1).size = bl.n
          rw [hw, hv4]; exact hsp
        · show (updl env σ.ne [v] σ.ne).1 = .agg (aggArr (updl env σ.ne [v] σ.ne).1)
          rw [hw, hv4]; rfl
        · show SetBlk w _ (β b) (.cells (aggArr (updl env σ.ne [v] σ.ne).1) bl.ty (0, 0))
          rw [hw, hv4]
          exact setBlk_setRow hheap
      -- a whole block by an 'asAgg' node
      have hwhole : n = bl.n → a.eval xo = .pointer (some ⟨β b, 0, none⟩) → r = ⟨[.asAgg n y], .setb b { bl with cont := .wh σ.ne }⟩ → o.wp X.P a w K Q := by
        intro hnb hxp hr
        subst hr
        obtain ⟨v, hv⟩ : ∃ v, (Nd.asAgg n y).den X env β v := hp.1
        obtain ⟨hv1, arr, hv2, hv3, hv4⟩ := hv
        have hw : (updl env σ.ne [v] σ.ne).1 = .agg arr := by show (upd env σ.ne v σ.ne).1 = _; rw [upd_same, hv1, hv2]
        have hrun := store_run (X := X) (w := w) (o := 0) (v := y.den env β) hn hheap (by rw [hv2]; exact hv3) (by rw [hb2, hnb]; omega) (by rw [hv2]; exact hv4)
        have hspl : splice (bl.cont.den env β) 0 (y.den env β).cells.toList = arr := by
          rw [hv2]
          apply Array.ext'
          simp only [splice, Value.cells, List.take_zero, List.nil_append, Nat.zero_add, Array.length_toList]
          rw [List.drop_of_length_le (by rw [Array.length_toList, hb2]; omega), List.append_nil]
        rw [hspl] at hrun
        refine wp_of_skip (store_exec ho hxp hy hrun) (hK [v] _ ⟨⟨hv1, arr, hv2, hv3, hv4⟩, rfl⟩ ?_ ?_ (hex _ rfl rfl rfl) ?_)
        · show (aggArr (updl env σ.ne [v] σ.ne).1).size = bl.n
          rw [hw]; exact hv3.trans hnb
        · show (updl env σ.ne [v] σ.ne).1 = .agg (aggArr (updl env σ.ne [v] σ.ne).1)
          rw [hw]; rfl
        · show SetBlk w _ (β b) (.cells (aggArr (updl env σ.ne [v] σ.ne).1) bl.ty (0, 0))
          rw [hw]
          exact setBlk_setRow hheap
      split at h
      · rename_i l xs hl hxs
        split at h
        · rename_i hc
          simp only [Bool.and_eq_true, decide_eq_true_eq] at hc
          obtain ⟨⟨hc1, hc2⟩, hc3⟩ := hc
          cases h
          have hxE : ∀ a ∈ xs, ∀ e ∈ atE a, e < σ.ne := fun a ha e he => hwe e (by
            cases y with
            | x at_ => cases ag <;> simp [cellsOf] at hxs; subst hxs; simp at ha; subst ha; exact he
            | l as => cases ag <;> simp [cellsOf] at hxs; subst hxs; exact List.mem_flatMap.2 ⟨a, ha, he⟩
            | t ss => simp [cellsOf] at hxs)
          obtain ⟨vs, hvs⟩ := chain_exists (plainAts σ.ne xs).1 env σ.ne (fun nd hnd => by
            have : ∀ (l : List At) (ne : Nat) (nd : Nd), nd ∈ (plainAts ne l).1 → ∃ i, nd = .plain i := by
              intro l
              induction l with
              | nil => intro ne nd h; simp [plainAts] at h
              | cons at_ l ih =>
                intro ne nd h
                cases at_ <;> simp only [plainAts, List.mem_cons] at h <;> first | exact ih _ _ h | (rcases h with rfl | h; exact ⟨_, rfl⟩; exact ih _ _ h)
            obtain ⟨i, rfl⟩ := this _ _ _ hnd
            rfl) hp
          obtain ⟨hq1, hq2⟩ := plainAts_sound X xs σ.ne env vs hxE hc3 hvs
          have hcells := cellsOf_den (env := env) (β := β) hxs (.inr ⟨hc3, hq2⟩)
          have hsz : (y.den env β).cells.size = n := by rw [← Array.length_toList, hcells]; simpa using hc1
          have hd : bl.cont.den env β = (l.map (At.den env β)).toArray := by rw [hl]; rfl
          have hrun := store_run (X := X) (w := w) (o := o') hn hheap hsz (by rw [hd]; simpa using hc2) (by
            rw [Array.all_eq_true']; intro u hu; rw [← Array.mem_toList_iff, hcells] at hu; exact hq2 u hu)
          have hnew : (Cont.en (splA l o' (plainAts σ.ne xs).2)).den (updl env σ.ne vs) β = splice (bl.cont.den env β) o' (y.den env β).cells.toList := by
            show ((splA l o' (plainAts σ.ne xs).2).map (At.den (updl env σ.ne vs) β)).toArray = _
            rw [splA_den, hq1, hcells, hd]
            congr 2
            exact ats_congr (fun e he => updl_lt _ _ _ _ (hblkE b bl hb e (by rw [hl]; exact he))) (fun _ _ => rfl)
          refine wp_of_skip (store_exec ho hx hy hrun) (hK vs _ hvs ?_ trivial (hex _ rfl rfl rfl) ?_)
          · show Array.size ((Cont.en (splA l o' (plainAts σ.ne xs).2)).den (updl env σ.ne vs) β) = bl.n
            rw [hnew, splice_size (by rw [Array.length_toList, hsz, hd]; simpa using hc2), hb2]
          · show SetBlk w _ (β b) (.cells ((Cont.en (splA l o' (plainAts σ.ne xs).2)).den (updl env σ.ne vs) β) bl.ty (0, 0))
            rw [hnew]
            exact setBlk_setRow hheap
        · cases h
      · rename_i l hl hnone
        split at h
        · rename_i hc
          simp only [Bool.and_eq_true, decide_eq_true_eq] at hc
          obtain ⟨⟨hc1, hc2⟩, hc3⟩ := hc
          cases h
          obtain ⟨v, hv⟩ : ∃ v, (Nd.asAgg n y).den X env β v := hp.1
          have hpv := hp.2 v hv
          obtain ⟨hv1, arr, hv2, hv3, hv4⟩ := hv
          obtain ⟨vs, hvs⟩ := chain_exists (selsFrom σ.ne 0 n) (upd env σ.ne v) (σ.ne + 1) (fun nd hnd => by
            have : ∀ (n k : Nat) (nd : Nd), nd ∈ selsFrom σ.ne k n → ∃ c p m ag, nd = .sel c p m ag := by
              intro n
              induction n with
              | zero => intro k nd h; simp [selsFrom] at h
              | succ n ih =>
                intro k nd h
                simp only [selsFrom, List.mem_cons] at h
                rcases h with rfl | h
                · exact ⟨_, _, _, _, rfl⟩
                · exact ih _ _ h
            obtain ⟨c, p, m, ag', rfl⟩ := this _ _ _ hnd
            rfl) hpv
          have hvarr : aggArr (upd env σ.ne v σ.ne).1 = arr := by rw [upd_same, hv1, hv2]; rfl
          have hq := sels_sound X σ.ne arr n 0 (σ.ne + 1) (upd env σ.ne v) vs (by omega) hvarr hvs (.inl (by omega))
          have hd : bl.cont.den env β = (l.map (At.den env β)).toArray := by rw [hl]; rfl
          have hrun := store_run (X := X) (w := w) (o := o') (v := y.den env β) hn hheap (by rw [hv2]; exact hv3) (by rw [hd]; simpa using hc2) (by rw [hv2]; exact hv4)
          have hnew : (Cont.en (splA l o' (varsFrom (σ.ne + 1) n))).den (updl env σ.ne (v :: vs)) β = splice (bl.cont.den env β) o' (y.den env β).cells.toList := by
            show ((splA l o' (varsFrom (σ.ne + 1) n)).map (At.den (updl env σ.ne (v :: vs)) β)).toArray = _
            rw [splA_den, updl, hq, hv2, hd]
            have e1 : l.map (At.den (updl (upd env σ.ne v) (σ.ne + 1) vs) β) = l.map (At.den env β) := ats_congr (fun e he => by
              have := hblkE b bl hb e (by rw [hl]; exact he)
              rw [updl_lt _ _ _ _ (by omega), upd_ne _ _ (by omega)]) (fun _ _ => rfl)
            rw [e1, List.drop_zero, List.take_of_length_le (by rw [Array.length_toList]; omega)]
            rfl
          refine wp_of_skip (store_exec ho hx hy hrun) (hK (v :: vs) _ ⟨⟨hv1, arr, hv2, hv3, hv4⟩, hvs⟩ ?_ trivial (hex _ rfl rfl rfl) ?_)
          · show Array.size ((Cont.en (splA l o' (varsFrom (σ.ne + 1) n))).den (updl env σ.ne (v :: vs)) β) = bl.n
            rw [hnew, splice_size (by rw [Array.length_toList, hv2, hd]; simp only [Value.cells, hv3]; simpa using hc2), hb2]
          · show SetBlk w _ (β b) (.cells ((Cont.en (splA l o' (varsFrom (σ.ne + 1) n))).den (updl env σ.ne (v :: vs)) β) bl.ty (0, 0))
            rw [hnew]
            exact setBlk_setRow hheap
        · split at h
          · rename_i hc
            simp only [Bool.and_eq_true, beq_iff_eq] at hc
            cases h
            obtain ⟨⟨hc1, rfl⟩, hc3⟩ := hc
            exact hwhole hc3 hx rfl
          · split at h
            · cases h
              exact hupd ⟨o', 0, none⟩ hx rfl
            · cases h
      · split at h
        · rename_i hc
          simp only [Bool.and_eq_true, beq_iff_eq] at hc
          cases h
          obtain ⟨⟨hc1, rfl⟩, hc3⟩ := hc
          exact hwhole hc3 hx rfl
        · split at h
          · cases h
            exact hupd ⟨o', 0, none⟩ hx rfl
          · cases h
  · rename_i b base stride i
    cases hb : blk? σ b with
    | none => simp [hb] at h
    | some bl =>
    simp only [hb, Option.bind_some] at h
    obtain ⟨hb1, hb2, hb3⟩ := hs.mem.blk b bl (blk?_some hb)
    split at h
    · cases h
    · rename_i hown
      have hown' : bl.own = true := by simpa using hown
      have hheap : w.heap[β b]? = some (.cells (bl.cont.den env β) bl.ty (0, 0)) := by simpa [Holds, hown'] using hb1
      split at h
      · cases h
        obtain ⟨v, hv⟩ : ∃ v, (Nd.upd bl.cont ⟨base, stride, some i⟩ n y).den X env β v := hp.1
        obtain ⟨hv1, hv2, hv3, hv4⟩ := hv
        have hrun := store_run (X := X) (w := w) (o := (⟨base, stride, some i⟩ : Pos).den env) hn hheap hv2 hv1 hv3
        have hsp : (splice (bl.cont.den env β) ((⟨base, stride, some i⟩ : Pos).den env) (y.den env β).cells.toList).size = bl.n := by rw [splice_size (by rw [Array.length_toList, hv2]; exact hv1), hb2]
        have hw : updl env σ.ne [v] σ.ne = v := upd_same env σ.ne v
        refine wp_of_skip (store_exec ho hx hy hrun) (hK [v] _ ⟨⟨hv1, hv2, hv3, hv4⟩, rfl⟩ ?_ ?_ ⟨bl, blk?_some hb, hown', hown', rfl, rfl⟩ ?_)
        · show (aggArr (updl env σ.ne [v] σ.ne).1).size = bl.n
          rw [hw, hv4]; exact hsp
        · show (updl env σ.ne [v] σ.ne).1 = .agg (aggArr (updl env σ.ne [v] σ.ne).1)
          rw [hw, hv4]; rfl
        · show SetBlk w _ (β b) (.cells (aggArr (updl env σ.ne [v] σ.ne).1) bl.ty (0, 0))
          rw [hw, hv4]
          exact setBlk_setRow hheap
      · cases h
  · cases h
end
end Go.Vc
