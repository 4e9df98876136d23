import Derived.Test.YtoakfcihcmmihaaDoorDLn2
import Derived.Test.YtoakfcihcmmihaaDoorVcFree
import Derived.Test.YtoakfcihcmmihaaDoorDSig
/-
  Lines from bytes: the program's closure, whose operations come in any order.
-/
namespace Go.Vc
open Go Go.Proofs Go.RowKit

/-- What a line is hashed from; the line. -/
def lab : List Nat := [118, 101, 105, 108, 32, 108, 105, 110, 101]
def glN (f : List Nat) (k i : Nat) : Nat := numB (sha [lab, seedB k i, f].flatten) % lN
theorem glN_lt (f : List Nat) (k i : Nat) : glN f k i < W256 := Nat.lt_trans (Nat.mod_lt _ (by decide)) (by decide)
def mxF : Nat := 2 ^ 45
theorem fl_len {f : List Nat} {k i : Nat} : [lab, seedB k i, f].flatten.length = 18 + f.length := by
  simp [lab, seedB_len]; omega
theorem lab_lt : ∀ x ∈ lab, x < 256 := by decide
theorem bss3 {w : World} {v x y z : Value} {a b c : List Nat} (h : SlAt w v 3 [x, y, z]) (hx : Bs w x a) (hy : Bs w y b) (hz : Bs w z c) : cBss.rd w v [a, b, c] :=
  bss_rd.2 ⟨[x, y, z], h, rfl, fun i u d hu hd => by
    match i with
    | 0 => simp at hu hd; subst hu; subst hd; exact hx
    | 1 => simp at hu hd; subst hu; subst hd; exact hy
    | 2 => simp at hu hd; subst hu; subst hd; exact hz
    | i + 3 => simp at hu⟩
theorem bs_one {w : World} {v : Value} {l : List Nat} (h : Bs w v l) : v.oneCell' = true := slAt_one h.at_

/-! ### memory that grows, but for marks -/
def Gr (w w' : World) : Prop := w.heap.size ≤ w'.heap.size ∧ ∀ a v, w.cell? a = some v → w'.cell? a = some v
theorem SlAt.gr {w w' : World} {v : Value} {n : Nat} {xs : List Value} (h : SlAt w v n xs) (g : Gr w w') : SlAt w' v n xs := by
  rcases h with h | ⟨b, o, cap, hv, hn, hc⟩
  · exact .inl h
  · exact .inr ⟨b, o, cap, hv, hn, fun i x hx => g.2 _ _ (hc i x hx)⟩
theorem Bs.gr {w w' : World} {v : Value} {l : List Nat} (h : Bs w v l) (g : Gr w w') : Bs w' v l := ⟨h.at_.gr g, h.lt⟩
theorem gr_stp {w w' : World} (h : Stp [] w w') : Gr w w' := ⟨h.size, fun a v hv => by
  rw [World.cell?_of_block (w := w) (h.past a.block (World.block_lt_of_cell? w _ hv) List.not_mem_nil)]; exact hv⟩
theorem gr_mark {w : World} {b n : Nat} {cs : Array Value} {ty : TypeId} (h : w.heap[b]? = some (.cells cs ty (0, 0))) : Gr w (w.freeze ⟨b, n, none⟩ 1) := by
  obtain ⟨h1, h2, h3⟩ := freeze_row (n := n) h
  refine ⟨Nat.le_of_eq h3.symm, fun a v hv => ?_⟩
  rcases Nat.decEq a.block b with hne | he
  · rw [World.cell?_of_block (w := w) (h2 _ hne)]; exact hv
  · unfold World.cell? at hv ⊢
    rw [he] at hv ⊢
    rw [h] at hv
    rw [h1]
    exact hv

/-! ### the closure -/
/-- The closure's arguments: kind and number, and where the bytes' variable lies. -/
def cLnC : Cods (Nat × Nat × List Nat) := ⟨fun w l p => ∃ b x, l = [J p.1, J p.2.1, .pointer (some ⟨b, 0, none⟩)] ∧ w.cell? ⟨b, 0, none⟩ = some x ∧ Bs w x p.2.2, fun w l ⟨k, i, f⟩ ⟨k', i', f'⟩ ⟨b, x, e, h, hx⟩ ⟨b', x', e', h', hx'⟩ => by
  dsimp only at e h hx e' h' hx'
  rw [e] at e'
  simp only [List.cons.injEq, Value.pointer.injEq, Option.some.injEq, Addr.mk.injEq, and_true] at e'
  obtain ⟨e1, e2, rfl⟩ := e'
  rw [h] at h'
  obtain rfl := Option.some.inj h'
  obtain rfl := J_inj0 e1
  obtain rfl := J_inj0 e2
  obtain rfl := cBs.inj _ _ _ _ (bs_rd.2 hx) (bs_rd.2 hx')
  rfl⟩
def cLn1 : Contract := fnW cLnC (fun p _ => p.1 < 256 ∧ p.2.1 < 2 ^ 63 ∧ p.2.2.length ≤ mxF) (fun p _ v _ => v = S (glN p.2.2 p.1 p.2.1))
def regs : Code → List (Array Oper)
  | .region _ ops _ => [ops]
  | .seq a b => regs a ++ regs b
  | _ => []
def rg (f : Func) (i : Nat) : Array Oper := match f.body with | some c => (regs c).getD i #[] | none => #[]
noncomputable abbrev fL := Tryd.f96
noncomputable abbrev oL : Array Oper := rg fL 1
theorem fL_body : fL.body = some (.seq (.region 0 (rg fL 0) false) (.seq (.region 1 oL true) .ret)) := by kernel_rfl
theorem oL_ok : okBf (bfOf oL.toList []) 0 (bfOf oL.toList []) = true := by kernel_rfl
theorem oL_res : fL.results = #[.cell 5 26] := by kernel_rfl
theorem oL_dst : oL.toList.map (fun o => (o.dst, o.guard)) = [(some 6, none), (some 7, none), (some 8, none), (some 9, none), (some 10, none), (some 11, none), (some 12, none), (some 13, none), (some 14, none), (some 15, none), (some 16, none), (none, none)] := by kernel_rfl
theorem oL_op : oL.toList.map (fun o => o.op) = [
  .buildSlice 112 9 #[(0, .const (B 118)), (1, .const (B 101)), (2, .const (B 105)), (3, .const (B 108)), (4, .const (B 32)), (5, .const (B 108)), (6, .const (B 105)), (7, .const (B 110)), (8, .const (B 101))],
  .convert 112 112 (.tmp 6), .move (.tmp 0), .move (.tmp 1), .build 160 #[(0, .tmp 8), (1, .tmp 9)],
  .call { callee := .value (.func 99), args := #[.tmp 10], argTypes := #[160] }, .load 112 (.tmp 2),
  .buildSlice 148 3 #[(0, .tmp 7), (1, .tmp 11), (2, .tmp 12)],
  .call { callee := .value (.func 98), args := #[.tmp 13], argTypes := #[148] },
  .call { callee := .value (.func 97), args := #[.tmp 14], argTypes := #[157] },
  .build 26 #[(0, .tmp 15)], .store 26 (.tmp 5) (.tmp 16)] := by kernel_rfl
theorem oL_at {i : Nat} {o : Oper} (h : oL.toList[i]? = some o) : i < 12 ∧ o.guard = none ∧ (oL.toList.map (fun o => (o.dst, o.guard)))[i]? = some (o.dst, o.guard) ∧ (oL.toList.map (fun o => o.op))[i]? = some o.op := by
  have h1 : (oL.toList.map (fun o => (o.dst, o.guard)))[i]? = some (o.dst, o.guard) := by rw [List.getElem?_map, h]; rfl
  have h2 : (oL.toList.map (fun o => o.op))[i]? = some o.op := by rw [List.getElem?_map, h]; rfl
  have hl : oL.toList.length = 12 := by rw [← List.length_map (f := fun o : Oper => (o.dst, o.guard)), oL_dst]; rfl
  have hi : i < 12 := by rw [← hl]; exact (List.getElem?_eq_some_iff.1 h).1
  refine ⟨hi, ?_, h1, h2⟩
  rw [oL_dst] at h1
  have : i = 0 ∨ i = 1 ∨ i = 2 ∨ i = 3 ∨ i = 4 ∨ i = 5 ∨ i = 6 ∨ i = 7 ∨ i = 8 ∨ i = 9 ∨ i = 10 ∨ i = 11 := by omega
  rcases this with rfl | rfl | rfl | rfl | rfl | rfl | rfl | rfl | rfl | rfl | rfl | rfl <;> (simp at h1; exact h1.2.symm)

section
variable (k i : Nat) (f : List Nat) (x : Value) (b r5 : Nat) (w0 : World)
/-- What the j-th operation's value is. -/
def FV (j : Nat) (v : Value) (w : World) : Prop :=
  match j with
  | 1 => Bs w v lab
  | 2 => v = J k
  | 3 => v = J i
  | 4 => v = .agg #[J k, J i]
  | 5 => Bs w v (seedB k i)
  | 6 => v = x
  | 7 => cBss.rd w v [lab, seedB k i, f]
  | 8 => v = BA (sha [lab, seedB k i, f].flatten)
  | 9 => v = S (glN f k i)
  | 10 => v = S (glN f k i)
  | _ => True
structure LI (D : Nat → Bool) (a : Act) (w : World) : Prop where
  sz : a.tmps.size = 17
  df : a.defers = []
  t0 : a.tmps[0]? = some (J k)
  t1 : a.tmps[1]? = some (J i)
  t2 : a.tmps[2]? = some (.pointer (some ⟨b, 0, none⟩))
  t5 : a.tmps[5]? = some (.pointer (some ⟨r5, 0, none⟩))
  km : KeepsM (fun _ => False) w0 w
  row : ∃ cs : List Value, w.heap[r5]? = some (.cells cs.toArray 26 (0, 0)) ∧ cs.length = 4 ∧ (D 11 = true → cs = encS (glN f k i))
  mkr : D 0 = true → D 1 = false → ∃ g, a.tmps[6]? = some (.slice (some ⟨g, 0, none⟩) 9 9) ∧ w.heap[g]? = some (.cells (lab.map B).toArray 5 (0, 0)) ∧ g ≠ r5 ∧ w0.heap.size ≤ g
  fv : D 11 = false → ∀ j, j < 11 → D j = true → ∃ v, a.tmps[6 + j]? = some v ∧ FV k i f x j v w
end
section
variable {k i : Nat} {f : List Nat} {x : Value} {b r5 : Nat} {w0 : World} {D : Nat → Bool} {a : Act} {w w' : World}
theorem FV.gr {j : Nat} {v : Value} (h : FV k i f x j v w) (g : Gr w w') : FV k i f x j v w' := by
  unfold FV at *
  split <;> simp only at h
  · exact h.gr g
  · exact h
  · exact h
  · exact h
  · exact h.gr g
  · exact h
  · obtain ⟨vs, h⟩ := bss_rd.1 h
    exact bss_rd.2 ⟨vs, h.at_.gr g, h.len, fun i x a h1 h2 => (h.all i x a h1 h2).gr g⟩
  · exact h
  · exact h
  · exact h
  · trivial
theorem put_tmp {a : Act} {d t : Nat} {v : Value} (h : a.tmps.size = 17) (hd : d < 17) : (a.put (some d) v).tmps[t]? = if t = d then some v else a.tmps[t]? := by
  have : (a.put (some d) v).tmps = a.tmps.setIfInBounds d v := by simp [Act.put]
  rw [this, Array.getElem?_setIfInBounds]
  by_cases h1 : d = t
  · subst h1; simp; omega
  · simp [h1, Ne.symm h1]
theorem KeepsM.trans0 {u v w : World} (h : KeepsM (fun _ => False) u v) (hs : u.heap.size ≤ v.heap.size) (k : ∀ b, b < u.heap.size → w.heap[b]? = v.heap[b]?) (ks : v.heap.size ≤ w.heap.size) (h1 : w.os = v.os) (h2 : w.tape = v.tape) (h3 : w.output = v.output) : KeepsM (fun _ => False) u w :=
  ⟨h1.trans h.os, h2.trans h.tape, h3.trans h.output, Nat.le_trans hs ks, fun b hb hn => (k b hb).trans (h.block b hb hn)⟩
/-- An operation that gives a value, and lets memory grow. -/
theorem LI.go (I : LI k i f x b r5 w0 D a w) {j : Nat} {v : Value} (hj : j < 11) (hD : D j = false) (hs : Stp [] w w') (h1 : w'.os = w.os) (h2 : w'.tape = w.tape) (h3 : w'.output = w.output) (hv : FV k i f x j v w')
    (h0 : j = 0 → ∃ g, v = .slice (some ⟨g, 0, none⟩) 9 9 ∧ w'.heap[g]? = some (.cells (lab.map B).toArray 5 (0, 0)) ∧ g ≠ r5 ∧ w0.heap.size ≤ g) (hj1 : j ≠ 1) : LI k i f x b r5 w0 (addD D j) (a.put (some (6 + j)) v) w' := by
  have pg := fun t => put_tmp (t := t) (v := v) I.sz (show 6 + j < 17 by omega)
  obtain ⟨cs, c1, c2, c3⟩ := I.row
  refine ⟨by simpa [Act.put] using I.sz, by simpa [Act.put] using I.df, by rw [pg, if_neg (by omega)]; exact I.t0, by rw [pg, if_neg (by omega)]; exact I.t1, by rw [pg, if_neg (by omega)]; exact I.t2, by rw [pg, if_neg (by omega)]; exact I.t5,
    I.km.trans0 I.km.size (fun b hb => hs.past b (Nat.lt_of_lt_of_le hb I.km.size) List.not_mem_nil) hs.size h1 h2 h3, ⟨cs, by rw [hs.past r5 (Array.getElem?_eq_some_iff.1 c1).1 List.not_mem_nil]; exact c1, c2, fun h => c3 ((addD_or h).resolve_right (by omega))⟩, fun d0 d1 => ?_, fun d11 q hq hd => ?_⟩
  · rcases Nat.decEq j 0 with hne | he
    · rw [addD_ne (Ne.symm hne)] at d0
      rw [addD_ne (Ne.symm hj1)] at d1
      obtain ⟨g, m1, m2, m3, m4⟩ := I.mkr d0 d1
      exact ⟨g, by rw [pg, if_neg (by omega)]; exact m1, by rw [hs.past g (Array.getElem?_eq_some_iff.1 m2).1 List.not_mem_nil]; exact m2, m3, m4⟩
    · obtain ⟨g, m1, m2, m3, m4⟩ := h0 he
      subst he
      exact ⟨g, by rw [pg, if_pos (by omega), m1], m2, m3, m4⟩
  · rcases addD_or hd with h | h
    · have hqj : q ≠ j := fun e => by rw [e, hD] at h; cases h
      obtain ⟨u, u1, u2⟩ := I.fv (by rwa [addD_ne (by omega)] at d11) q hq h
      exact ⟨u, by rw [pg, if_neg (by omega)]; exact u1, u2.gr (gr_stp hs)⟩
    · subst h
      exact ⟨v, by rw [pg, if_pos rfl], hv⟩
end
end Go.Vc

/-
  Lines from bytes: the program's closure, one operation after another.
-/
namespace Go.Vc
open Go Go.Proofs Go.RowKit

theorem ev_tmp {a : Act} {t : Nat} {v : Value} (h : a.tmps[t]? = some v) : a.eval (.tmp t) = v := by simp [Act.eval, Array.getD_eq_getD_getElem?, h]
theorem wp_call1 {P : Program} {o : Oper} {a : Act} {w : World} {f t : Nat} {at_ : Array TypeId} {v : Value} {K : Act → World → Prop} {Q : Exit → Act → World → Prop} {R : Value → World → Prop} (hop : o.op = .call { callee := .value (.func f), args := #[.tmp t], argTypes := at_ }) (hv : a.eval (.tmp t) = v)
    (hent : entersB P f = true) (hc : Calls P f #[v] w fun e w' => ∃ u, e = .returned u ∧ R u w') (hK : ∀ u w', R u w' → K (a.put o.dst u) w') : o.wp P a w K Q := by
  have hrun : (execOp a.eval o).run P w = .ok (.enter f #[v]) w := by
    have := enters_of hent #[v] w
    have hargs : #[Operand.tmp t].map a.eval = #[v] := by simp [hv]
    have hf : a.eval (.func f) = .func (.func f) #[] #[] := rfl
    simp only [execOp, hop, resolve, Deferred.ofValue, invoke, hargs, hf, Sem.run_bind, Sem.run_pure, Result.andThen_ok, Array.empty_append, Array.append_empty]
    exact this
  unfold Oper.wp
  rw [hrun]
  refine Calls.mono hc fun e w' ⟨u, he, hr⟩ => ?_
  subst he
  exact hK u w' hr
theorem below_stp {w w' : World} (h : Below w.heap.size w w') : Stp [] w w' := ⟨h.size, fun b hb _ => h.block b hb⟩
theorem alloc_stp (w : World) (o : Obj) : Stp [] w (w.alloc o) := ⟨by simp, fun b hb _ => heap_alloc_old w o hb⟩
theorem some_of {α : Type} {l : List α} {i : Nat} {x y : α} (h : l[i]? = some y) (e : l[i]? = some x) : y = x := Option.some.inj (h.symm.trans e)
def labP : Array (Nat × Value) := #[(0, B 118), (1, B 101), (2, B 105), (3, B 108), (4, B 32), (5, B 108), (6, B 105), (7, B 110), (8, B 101)]
theorem fill_lab : Instr.fill (fun i => some (i * 1, 1)) ((Array.range (9 * 1)).map ((B 0).cells[· % (B 0).cells.size]!)) labP.toList = some (lab.map B).toArray := by kernel_rfl
theorem szLn : sz Tryd.prog 26 = some 4 := by kernel_rfl
theorem uU8 : Tryd.prog.underlying 5 = some (.int .u8) := by kernel_rfl
theorem slAt_row' {w : World} {b o n cap : Nat} {cells : Array Value} {ty : TypeId} {fr : Nat × Nat} {xs : List Value} (h : w.heap[b]? = some (.cells cells ty fr)) (hn : n ≤ cap) (hc : cap ≤ maxLen) (hx : ∀ (i : Nat) (x : Value), xs[i]? = some x → cells[o + i]? = some x) : SlAt w (.slice (some ⟨b, o, none⟩) n cap) n xs :=
  .inr ⟨b, o, cap, rfl, ⟨hn, hc⟩, fun i x hi => by simp [World.cell?, h, hx i x hi]⟩
noncomputable abbrev dX (w : World) : Ctx := ctx Tryd.prog GH T0 w (fun _ => False) (fun _ _ => True)
theorem bitL (i j : Nat) (h : ((bfOf oL.toList []).getD i 0).testBit j = true) {D : Nat → Bool} (hb : ∀ q, ((bfOf oL.toList []).getD i 0).testBit q = true → D q = true) : D j = true := hb j h

section
variable {k i : Nat} {f : List Nat} {x : Value} {b r5 : Nat} {w0 : World} {D : Nat → Bool} {a : Act} {w : World} {Q : Exit → Act → World → Prop}
theorem ln_step (hg : GH w0) (hcell : w0.cell? ⟨b, 0, none⟩ = some x) (hx : Bs w0 x f) (hk : k < 256) (hi : i < 2 ^ 63) (hf : f.length ≤ mxF) (hr5 : w0.heap.size ≤ r5) {j : Nat} {o : Oper} (ho : oL.toList[j]? = some o) (hD : D j = false) (hC : Closed (bfOf oL.toList []) D)
    (hb : ∀ q, ((bfOf oL.toList []).getD j 0).testBit q = true → D q = true) (I : LI k i f x b r5 w0 D a w) : o.guard = none ∧ o.wp Tryd.prog a w (fun a' w' => LI k i f x b r5 w0 (addD D j) a' w') Q := by
  obtain ⟨hj, hgd, h1, h2⟩ := oL_at ho
  refine ⟨hgd, ?_⟩
  rw [oL_dst] at h1
  rw [oL_op] at h2
  have hG : GH w := hGH w0 w hg (fun q hq => I.km.block q hq id) I.km.size
  have ky : Stp [] w0 w := ⟨I.km.size, fun q hq _ => I.km.block q hq id⟩
  have hbl : b < w0.heap.size := World.block_lt_of_cell? w0 _ hcell
  simp only [mxF] at hf
  have hj' : j = 0 ∨ j = 1 ∨ j = 2 ∨ j = 3 ∨ j = 4 ∨ j = 5 ∨ j = 6 ∨ j = 7 ∨ j = 8 ∨ j = 9 ∨ j = 10 ∨ j = 11 := by omega
  have lt5 : r5 < w.heap.size := by obtain ⟨cs, c1, _⟩ := I.row; exact (Array.getElem?_eq_some_iff.1 c1).1
  have d11 : D 11 = false := by
    cases h : D 11 with
    | false => rfl
    | true =>
      have hall : ∀ q, q < 11 → ((bfOf oL.toList []).getD 11 0).testBit q = true := fun q hq => by
        have e : (bfOf oL.toList []).getD 11 0 = 2047 := by kernel_rfl
        rw [e]
        have : q = 0 ∨ q = 1 ∨ q = 2 ∨ q = 3 ∨ q = 4 ∨ q = 5 ∨ q = 6 ∨ q = 7 ∨ q = 8 ∨ q = 9 ∨ q = 10 := by omega
        rcases this with rfl | rfl | rfl | rfl | rfl | rfl | rfl | rfl | rfl | rfl | rfl <;> decide
      rcases Nat.lt_or_ge j 11 with h' | h'
      · have := hC 11 j h (hall j h'); rw [hD] at this; cases this
      · obtain rfl : j = 11 := by omega
        rw [hD] at h; cases h
  have fv := I.fv d11
  rcases hj' with rfl | rfl | rfl | rfl | rfl | rfl | rfl | rfl | rfl | rfl | rfl | rfl
  · -- the text
    have hd : o.dst = some 6 := by simp at h1; exact h1.1.symm
    have hop := some_of h2 rfl
    obtain ⟨ie, hie, hs1, hs2, hz⟩ := tyB.info
    have hrun : (execOp a.eval o).run Tryd.prog w = .ok (.value (.slice (some ⟨w.heap.size, 0, none⟩) 9 9)) (w.alloc (.cells (lab.map B).toArray 5)) := by
      unfold execOp
      rw [hop]
      have em : (#[(0, .const (B 118)), (1, .const (B 101)), (2, .const (B 105)), (3, .const (B 108)), (4, .const (B 32)), (5, .const (B 108)), (6, .const (B 105)), (7, .const (B 110)), (8, .const (B 101))] : Array (Nat × Operand)).map (fun p => (p.1, a.eval p.2)) = labP := by simp [Act.eval, labP]
      simp only [Sem.run_bind]
      rw [em, run_buildSlice w _ 5 9 _ (lab.map B).toArray ie (B 0) tyB.sl hie hz (by rw [hs1]; decide) (by rw [hs1]; decide) (by rw [hs1]; exact fill_lab)]
      rfl
    refine wp_of_value hrun ?_
    rw [hd]
    exact I.go (by decide) hD (alloc_stp _ _) rfl rfl rfl trivial (fun _ => ⟨_, rfl, heap_alloc_new _ _, by omega, I.km.size⟩) (by decide)
  · -- it is marked
    have hd : o.dst = some 7 := by simp at h1; exact h1.1.symm
    have hop := some_of h2 rfl
    obtain ⟨g, m1, m2, m3, m4⟩ := I.mkr (bitL 1 0 (by kernel_rfl) hb) hD
    have hrun : (execOp a.eval o).run Tryd.prog w = .ok (.value (.slice (some ⟨g, 0, none⟩) 9 9)) (w.freeze ⟨g, (lab.map B).toArray.size, none⟩ 1) := by
      unfold execOp
      rw [hop]
      simp only [ev_tmp m1, Sem.run_bind, run_mark tyB.sl uU8 m2]
      rfl
    refine wp_of_value hrun ?_
    rw [hd]
    obtain ⟨f1, f2, f3⟩ := freeze_row (n := (lab.map B).toArray.size) m2
    have gr := gr_mark (n := (lab.map B).toArray.size) m2
    have pg := fun t => put_tmp (t := t) (v := .slice (some ⟨g, 0, none⟩) 9 9) I.sz (show 7 < 17 by omega)
    have hos : ∀ (w : World) (n : Nat), (w.freeze ⟨g, n, none⟩ 1).os = w.os ∧ (w.freeze ⟨g, n, none⟩ 1).tape = w.tape ∧ (w.freeze ⟨g, n, none⟩ 1).output = w.output := fun w n => by unfold World.freeze; rw [if_neg (by decide)]; exact ⟨rfl, rfl, rfl⟩
    obtain ⟨cs, c1, c2, c3⟩ := I.row
    refine ⟨by simpa [Act.put] using I.sz, by simpa [Act.put] using I.df, by rw [pg, if_neg (by omega)]; exact I.t0, by rw [pg, if_neg (by omega)]; exact I.t1, by rw [pg, if_neg (by omega)]; exact I.t2, by rw [pg, if_neg (by omega)]; exact I.t5,
      I.km.trans0 I.km.size (fun q hq => f2 q (by omega)) (Nat.le_of_eq f3.symm) (hos _ _).1 (hos _ _).2.1 (hos _ _).2.2, ⟨cs, by rw [f2 r5 (Ne.symm m3)]; exact c1, c2, fun h => c3 ((addD_or h).resolve_right (by decide))⟩, fun _ d1 => (by rw [addD_self] at d1; cases d1), fun _ q hq hd => ?_⟩
    rcases addD_or hd with h | h
    · have hq1 : q ≠ 1 := fun e => by rw [e, hD] at h; cases h
      obtain ⟨u, u1, u2⟩ := fv q hq h
      exact ⟨u, by rw [pg, if_neg (by omega)]; exact u1, u2.gr gr⟩
    · subst h
      refine ⟨_, (pg 7).trans (if_pos rfl), ?_⟩
      exact ⟨slAt_row' f1 (Nat.le_refl _) (by decide) (fun i x hx => by rw [Nat.zero_add, List.getElem?_toArray]; exact hx), lab_lt⟩
  · have hd : o.dst = some 8 := by simp at h1; exact h1.1.symm
    have hop := some_of h2 rfl
    have hrun : (execOp a.eval o).run Tryd.prog w = .ok (.value (J k)) w := by
      unfold execOp; rw [hop]; simp only [ev_tmp I.t0]; rfl
    refine wp_of_value hrun ?_
    rw [hd]
    exact I.go (j := 2) (by decide) hD (Stp.refl _ _) rfl rfl rfl rfl (fun h => by cases h) (by decide)
  · have hd : o.dst = some 9 := by simp at h1; exact h1.1.symm
    have hop := some_of h2 rfl
    have hrun : (execOp a.eval o).run Tryd.prog w = .ok (.value (J i)) w := by
      unfold execOp; rw [hop]; simp only [ev_tmp I.t1]; rfl
    refine wp_of_value hrun ?_
    rw [hd]
    exact I.go (j := 3) (by decide) hD (Stp.refl _ _) rfl rfl rfl rfl (fun h => by cases h) (by decide)
  · have hd : o.dst = some 10 := by simp at h1; exact h1.1.symm
    have hop := some_of h2 rfl
    obtain ⟨u2, e2, rfl⟩ := fv 2 (by decide) (bitL 4 2 (by kernel_rfl) hb)
    obtain ⟨u3, e3, rfl⟩ := fv 3 (by decide) (bitL 4 3 (by kernel_rfl) hb)
    have hbd : (Instr.build 160 #[(0, J k), (1, J i)]).run Tryd.prog w = .ok (.agg #[J k, J i]) w := by kernel_rfl
    have hrun : (execOp a.eval o).run Tryd.prog w = .ok (.value (.agg #[J k, J i])) w := by
      unfold execOp; rw [hop]
      have em : (#[(0, Operand.tmp 8), (1, Operand.tmp 9)] : Array (Nat × Operand)).map (fun p => (p.1, a.eval p.2)) = #[(0, J k), (1, J i)] := by simp [ev_tmp e2, ev_tmp e3]
      simp only [Sem.run_bind]
      rw [em, hbd]
      rfl
    refine wp_of_value hrun ?_
    rw [hd]
    exact I.go (j := 4) (by decide) hD (Stp.refl _ _) rfl rfl rfl rfl (fun h => by cases h) (by decide)
  · have hd : o.dst = some 11 := by simp at h1; exact h1.1.symm
    have hop := some_of h2 rfl
    obtain ⟨u4, e4, rfl⟩ := fv 4 (by decide) (bitL 5 4 (by kernel_rfl) hb)
    refine wp_call1 hop (ev_tmp e4) (by kernel_rfl) (R := fun u w' => w'.ownsRow w.heap.size 5 1 u 9 ((seedB k i).map B) ∧ KeepsM (fun _ => False) w w') ((keepsSeed.callsW [.agg #[J k, J i]] w ⟨(k, i), rfl, hk, hi⟩ hG).mono fun e w' ⟨v, he, hp, _⟩ => ⟨v, he, hp.1 (k, i) rfl, hp.2⟩) fun u w' ⟨ho', hkp⟩ => ?_
    rw [hd]
    exact I.go (j := 5) (by decide) hD (KeepsM.stp hkp) hkp.os hkp.tape hkp.output (own_bs ho' (seedB_lt hk)).1 (fun h => by cases h) (by decide)
  · have hd : o.dst = some 12 := by simp at h1; exact h1.1.symm
    have hop := some_of h2 rfl
    have hc : w.cell? ⟨b, 0, none⟩ = some x := by rw [World.cell?_of_block (w := w0) (ky.past b hbl List.not_mem_nil)]; exact hcell
    have hrun : (execOp a.eval o).run Tryd.prog w = .ok (.value x) w := by
      unfold execOp; rw [hop]
      simp only [ev_tmp I.t2, Sem.run_bind]
      rw [show (Instr.loadAt 112 (.pointer (some ⟨b, 0, none⟩))).run Tryd.prog w = .ok x w from load_one (X := dX w) aggSl hc]
      rfl
    refine wp_of_value hrun ?_
    rw [hd]
    exact I.go (j := 6) (by decide) hD (Stp.refl _ _) rfl rfl rfl rfl (fun h => by cases h) (by decide)
  · have hd : o.dst = some 13 := by simp at h1; exact h1.1.symm
    have hop := some_of h2 rfl
    obtain ⟨u1, e1, g1⟩ := fv 1 (by decide) (bitL 7 1 (by kernel_rfl) hb)
    obtain ⟨u5, e5, g5⟩ := fv 5 (by decide) (bitL 7 5 (by kernel_rfl) hb)
    obtain ⟨u6, e6, rfl⟩ := fv 6 (by decide) (bitL 7 6 (by kernel_rfl) hb)
    have g1 : Bs w u1 lab := g1
    have g5 : Bs w u5 (seedB k i) := g5
    have gx : Bs w u6 f := hx.stp0 ky
    obtain ⟨a1, c1, rfl, _⟩ := slAt_form g1.at_
    obtain ⟨a5, c5, rfl, _⟩ := slAt_form g5.at_
    obtain ⟨a6, c6, rfl, _⟩ := slAt_form gx.at_
    obtain ⟨ie, hie, hs1, hs2, hz⟩ := tyBB.info
    have hrun : (execOp a.eval o).run Tryd.prog w = .ok (.value (.slice (some ⟨w.heap.size, 0, none⟩) 3 3)) (w.alloc (.cells #[.slice a1 lab.length c1, .slice a5 (seedB k i).length c5, .slice a6 f.length c6] 112)) := by
      unfold execOp
      rw [hop]
      have em : (#[(0, Operand.tmp 7), (1, Operand.tmp 11), (2, Operand.tmp 12)] : Array (Nat × Operand)).map (fun p => (p.1, a.eval p.2)) = #[(0, .slice a1 lab.length c1), (1, .slice a5 (seedB k i).length c5), (2, .slice a6 f.length c6)] := by simp [ev_tmp e1, ev_tmp e5, ev_tmp e6]
      simp only [Sem.run_bind]
      rw [em, run_buildSlice w _ 112 3 _ #[.slice a1 lab.length c1, .slice a5 (seedB k i).length c5, .slice a6 f.length c6] ie (.slice none 0 0) tyBB.sl hie hz (by rw [hs1]; decide) (by rw [hs1]; decide) (by rw [hs1]; kernel_rfl)]
      rfl
    refine wp_of_value hrun ?_
    rw [hd]
    have hst := alloc_stp w (.cells #[.slice a1 lab.length c1, .slice a5 (seedB k i).length c5, .slice a6 f.length c6] 112)
    exact I.go (j := 7) (by decide) hD hst rfl rfl rfl (bss3 (slAt_row (heap_alloc_new _ _) (Nat.le_refl _) (by decide) (fun i x hx => by rw [Nat.zero_add, List.getElem?_toArray]; exact hx)) (g1.stp0 hst) (g5.stp0 hst) (gx.stp0 hst)) (fun h => by cases h) (by decide)
  · have hd : o.dst = some 14 := by simp at h1; exact h1.1.symm
    have hop := some_of h2 rfl
    obtain ⟨u7, e7, g7⟩ := fv 7 (by decide) (bitL 8 7 (by kernel_rfl) hb)
    refine wp_call1 hop (ev_tmp e7) (by kernel_rfl) (R := fun u w' => u = BA (sha [lab, seedB k i, f].flatten) ∧ KeepsM (fun _ => False) w w') ((keepsSum.callsW [u7] w ⟨([lab, seedB k i, f], ()), ⟨_, _, rfl, g7, rfl⟩, by dsimp only; rw [fl_len]; omega⟩ hG).mono fun e w' ⟨v, he, hp, _⟩ => ⟨v, he, hp.1 ([lab, seedB k i, f], ()) ⟨_, _, rfl, g7, rfl⟩, hp.2⟩) fun u w' ⟨hu, hkp⟩ => ?_
    rw [hd]
    exact I.go (j := 8) (by decide) hD (KeepsM.stp hkp) hkp.os hkp.tape hkp.output hu (fun h => by cases h) (by decide)
  · have hd : o.dst = some 15 := by simp at h1; exact h1.1.symm
    have hop := some_of h2 rfl
    obtain ⟨u8, e8, rfl⟩ := fv 8 (by decide) (bitL 9 8 (by kernel_rfl) hb)
    refine wp_call1 hop (ev_tmp e8) (by kernel_rfl) (R := fun u w' => u = S (glN f k i) ∧ Below w.heap.size w w') ((keepsWide.calls [BA (sha [lab, seedB k i, f].flatten)] w ⟨_, ⟨sha_len _, sha_lt _⟩, rfl⟩ hG.gt).mono fun e w' ⟨v, he, hp, hbw⟩ => ⟨v, he, hp _ ⟨sha_len _, sha_lt _⟩ rfl, hbw⟩) fun u w' ⟨hu, hbw⟩ => ?_
    rw [hd]
    exact I.go (j := 9) (by decide) hD (below_stp hbw) hbw.os hbw.tape hbw.output hu (fun h => by cases h) (by decide)
  · have hd : o.dst = some 16 := by simp at h1; exact h1.1.symm
    have hop := some_of h2 rfl
    obtain ⟨u9, e9, rfl⟩ := fv 9 (by decide) (bitL 10 9 (by kernel_rfl) hb)
    have hbd : ∀ n, (Instr.build 26 #[(0, S n)]).run Tryd.prog w = .ok (S n) w := fun n => by kernel_rfl
    have hrun : (execOp a.eval o).run Tryd.prog w = .ok (.value (S (glN f k i))) w := by
      unfold execOp; rw [hop]
      have em : (#[(0, Operand.tmp 15)] : Array (Nat × Operand)).map (fun p => (p.1, a.eval p.2)) = #[(0, S (glN f k i))] := by simp [ev_tmp e9]
      simp only [Sem.run_bind]
      rw [em, hbd]
      rfl
    refine wp_of_value hrun ?_
    rw [hd]
    exact I.go (j := 10) (by decide) hD (Stp.refl _ _) rfl rfl rfl rfl (fun h => by cases h) (by decide)
  · have hd : o.dst = none := by simp at h1; exact h1.1.symm
    have hop := some_of h2 rfl
    obtain ⟨u10, e10, rfl⟩ := fv 10 (by decide) (bitL 11 10 (by kernel_rfl) hb)
    obtain ⟨cs, c1, c2, c3⟩ := I.row
    have hst : (Instr.storeAt 26 (.pointer (some ⟨r5, 0, none⟩)) (S (glN f k i))).run Tryd.prog w = .ok () (w.setRow r5 (splice cs.toArray 0 (S (glN f k i)).cells.toList)) := store_run (X := dX w) (t := 26) (o := 0) (n := 4) (v := S (glN f k i)) szLn c1 rfl (by simp [c2]) (by simp [S, Value.cells, U, Value.oneCell'])
    have hsp : splice cs.toArray 0 (S (glN f k i)).cells.toList = (encS (glN f k i)).toArray := by
      unfold splice
      have : cs.drop (0 + (S (glN f k i)).cells.toList.length) = [] := List.drop_of_length_le (by rw [c2]; exact Nat.le_refl _)
      rw [this]
      rfl
    rw [hsp] at hst
    have hrun : (execOp a.eval o).run Tryd.prog w = .ok .skip (w.setRow r5 (encS (glN f k i)).toArray) := by
      unfold execOp; rw [hop]
      simp only [ev_tmp I.t5, ev_tmp e10, Sem.run_bind]
      rw [hst]
      rfl
    refine wp_of_skip hrun ?_
    rw [hd]
    have pt : a.put none undef = a := rfl
    rw [pt]
    have row' := setRow_heap w r5 cs.toArray (encS (glN f k i)).toArray 26 (0, 0) c1
    have oth : ∀ q, q ≠ r5 → (w.setRow r5 (encS (glN f k i)).toArray).heap[q]? = w.heap[q]? := fun q hq => setRow_other w r5 q _ hq
    refine ⟨I.sz, I.df, I.t0, I.t1, I.t2, I.t5, I.km.trans0 I.km.size (fun q hq => oth q (by omega)) (by simp [World.setRow]) rfl rfl rfl, ⟨encS (glN f k i), row', rfl, fun _ => rfl⟩, fun d0 d1 => ?_, fun h11 => by rw [addD_self] at h11; cases h11⟩
    · have := bitL 11 1 (by kernel_rfl) hb
      rw [addD_ne (by decide), this] at d1; cases d1
end
theorem o0_op : (rg fL 0).toList.map (fun o => (o.dst, o.op, o.guard)) = [(some 5, .alloc 26, none)] := by kernel_rfl
theorem o0_size : (rg fL 0).size = 1 := by kernel_rfl
theorem oL_size : oL.size = 12 := by kernel_rfl
theorem fL_n : fL.ntmps = 17 := by kernel_rfl
theorem zeLn : (Tryd.prog.info? 26).bind (·.zero) = some (S 0) := by kernel_rfl
theorem aggLn : agg? Tryd.prog 26 = some true := by kernel_rfl
theorem alloc_run {P : Program} {o : Oper} {t : TypeId} {z : Value} (hop : o.op = .alloc t) (hz : (P.info? t).bind (·.zero) = some z) (e : Operand → Value) (w : World) : (execOp e o).run P w = .ok (.value (.pointer (some ⟨w.heap.size, 0, none⟩))) (w.alloc (.cells z.cells t)) := by
  have hr := run_zero (X := ctx P (fun _ => True) T0 w (fun _ => False) (fun _ _ => True)) hz w
  have hr : (zeroValue t).run P w = .ok z w := hr
  simp [execOp, hop, Instr.alloc, hr, newVar, newRow]
theorem act0 (p q r v : Value) : ({ tmps := [p, q, r].toArray ++ Array.replicate (17 - [p, q, r].toArray.size) undef, defers := [] } : Act).put (some 5) v = ⟨#[p, q, r, undef, undef, v, undef, undef, undef, undef, undef, undef, undef, undef, undef, undef, undef], []⟩ := by
  rfl
theorem keepsLn1 : Keeps1 Tryd.prog GH 96 cLn1 := by
  refine ⟨fun args w hp => hp.elim, fun args w0 ⟨⟨k, i, f⟩, hrd, hpre⟩ hg => ?_⟩
  obtain ⟨b, x, rfl, hcell, hx⟩ := hrd
  dsimp only at hcell hx hpre
  obtain ⟨hk, hi, hf⟩ := hpre
  refine calls_of_wp Tryd.func96 fL_body ?_
  refine wp_seq (wp_region ?_)
  rw [o0_size]
  show wpOps _ _ _ [0] _ _
  rw [wpOps_cons]
  obtain ⟨o0, ho0⟩ : ∃ o, (rg fL 0)[0]? = some o := ⟨_, Array.getElem?_eq_getElem (by rw [o0_size]; decide)⟩
  have hl0 : (rg fL 0).toList[0]? = some o0 := by rw [Array.getElem?_toList]; exact ho0
  have h0 : ((rg fL 0).toList.map (fun o => (o.dst, o.op, o.guard)))[0]? = some (o0.dst, o0.op, o0.guard) := by rw [List.getElem?_map, hl0]; rfl
  rw [o0_op] at h0
  simp only [List.getElem?_cons_zero, Option.some.injEq, Prod.mk.injEq] at h0
  obtain ⟨d0, p0, g0⟩ := h0
  refine wpOp_step ho0 fun K' hK' => ?_
  have hw : ∀ a, Region.wanted o0 (yielded (rg fL 0) a) = true := fun a => by unfold Region.wanted; rw [← g0]
  rw [if_pos (hw _)]
  have hrun : ∀ e w, (execOp e o0).run Tryd.prog w = .ok (.value (.pointer (some ⟨w.heap.size, 0, none⟩))) (w.alloc (.cells (encS 0).toArray 26)) := fun e w => alloc_run (z := S 0) p0.symm zeLn e w
  refine wp_of_value (hrun _ _) (hK' _ _ ?_)
  rw [← d0]
  simp only [wpOps]
  have hst := alloc_stp w0 (.cells (encS 0).toArray 26)
  have hnew : (w0.alloc (.cells (encS 0).toArray 26)).heap[w0.heap.size]? = some (.cells (encS 0).toArray 26 (0, 0)) := heap_alloc_new _ _
  generalize hw1 : w0.alloc (.cells (encS 0).toArray 26) = w1 at hst hnew
  have hos : w1.os = w0.os ∧ w1.tape = w0.tape ∧ w1.output = w0.output := by rw [← hw1]; exact ⟨rfl, rfl, rfl⟩
  refine wp_seq (draw_region (Inv := LI k i f x b w0.heap.size w0) hMix oL_ok (fun D j o a w ho hD hC hb I => ln_step hg hcell hx hk hi hf (Nat.le_refl _) ho hD hC hb I) (fun D a w hall I => ?_) ?_)
  · refine wp_ret ⟨I.df, ?_⟩
    obtain ⟨cs, c1, c2, c3⟩ := I.row
    rw [c3 (hall 11 (by rw [oL_size]; decide))] at c1
    refine ⟨S (glN f k i), ?_, S (glN f k i), rfl, ⟨fun p hp => ?_, I.km⟩, I.km⟩
    · rw [results_eq, oL_res]
      have h5 : a.tmps.getD 5 undef = .pointer (some ⟨w0.heap.size, 0, none⟩) := by simp [Array.getD_eq_getD_getElem?, I.t5]
      have hl : (Instr.loadAt 26 (.pointer (some ⟨w0.heap.size, 0, none⟩))).run Tryd.prog w = .ok (S (glN f k i)) w := load_agg (X := dX w) (cs := encS (glN f k i)) aggLn szLn fun j v hj => by simp [World.cell?, c1, hj]
      have hr : (resVal a.tmps (.cell 5 26)).run Tryd.prog w = .ok (S (glN f k i)) w := by
        simp only [Instr.loadAt, Instr.sureAddr] at hl
        simpa [resVal, h5, asAddr] using hl
      have hm : (#[ResultVar.cell 5 26].mapM (resVal a.tmps)).run Tryd.prog w = .ok #[S (glN f k i)] w := by
        rw [Array.mapM_eq_mapM_toList, Sem.run_map]
        simp [hr]
      rw [Sem.run_bind, hm]
      rfl
    · have := cLnC.inj w0 _ p (k, i, f) hp ⟨b, x, rfl, hcell, hx⟩
      subst this
      rfl
  · rw [fL_n, act0]
    exact ⟨rfl, rfl, rfl, rfl, rfl, rfl, ⟨hos.1, hos.2.1, hos.2.2, hst.size, fun q hq _ => hst.past q hq List.not_mem_nil⟩, ⟨encS 0, hnew, rfl, fun h => (by cases h)⟩, (fun h => by cases h), fun _ q _ h => (by cases h)⟩
#print axioms keepsLn1
end Go.Vc

/-
  Lines from bytes: one line, on the document's side.
-/
namespace Go.Vc
open Go Go.Proofs Go.RowKit

theorem own_row {w : World} {base e size n cap g : Nat} {xs : List Value} (h : w.ownsRow base e size (.slice (some ⟨g, 0, none⟩) n cap) n xs) : ∃ cur : Array Value, w.heap[g]? = some (.cells cur e (0, 0)) ∧ base ≤ g ∧ ∀ (i : Nat) (x : Value), xs[i]? = some x → cur[i]? = some x := by
  have hs := own_slAt h
  rcases h.2 with ⟨hv, _⟩ | ⟨g', cap', cur, hv, hbg, hg, _⟩
  · cases hv
  · cases hv
    refine ⟨cur, hg, hbg, fun i x hx => ?_⟩
    rcases hs with ⟨hv, _⟩ | ⟨b, o, c, hv, _, hc⟩
    · cases hv
    · cases hv
      have := hc i x hx
      simpa [World.cell?, hg] using this
def ann100 : Ann := ⟨[], [9], 70, [(136, false), (91, false), (135, false)], [], none, [], []⟩
def kb100_0 (b0 : Nat) : List KB := [⟨b0, true, 39, #[(J 0), (J 0), (J 0), (J 0), (J 0), (J 0), (J 0), (J 0), (J 0), (J 0), (J 0), (J 0), (J 0), (J 0), (J 0), (J 0), (J 0), (J 0), (J 0), (J 0), (J 0), (U 0), (U 0), (U 0), (U 0), (.slice none 0 0)]⟩]
theorem vc100 (X : Ctx) (β : Nat → Nat) (x0 x1 x2 : Value) : (run Tryd.prog ann100 100 [.x (.v 0), .x (.v 1), .x (.v 2)] [] [] 4).den X (env0 [x0, x1, x2] X.w0) 4 β 0 (fun _ _ _ => False) = (
  AskNew X.w0 fun b0 =>
  AskO X X.w0 [] (kb100_0 b0) false (Go.Op.buildSlice 112 9 #[(0, Go.Operand.const (Go.Value.int Go.IntKind.u8 118)), (1, Go.Operand.const (Go.Value.int Go.IntKind.u8 101)), (2, Go.Operand.const (Go.Value.int Go.IntKind.u8 105)), (3, Go.Operand.const (Go.Value.int Go.IntKind.u8 108)), (4, Go.Operand.const (Go.Value.int Go.IntKind.u8 32)), (5, Go.Operand.const (Go.Value.int Go.IntKind.u8 108)), (6, Go.Operand.const (Go.Value.int Go.IntKind.u8 105)), (7, Go.Operand.const (Go.Value.int Go.IntKind.u8 110)), (8, Go.Operand.const (Go.Value.int Go.IntKind.u8 101))]) 112 [] fun x4 w4 =>
  AskO X w4 [] (kb100_0 b0) true (Go.Op.convert 112 112 (Go.Operand.tmp 7)) 112 [(7, x4)] fun x5 w5 =>
  AskW X w5 [] (kb100_0 b0) false 136 [x1, x2] fun x6 w6 =>
  AskO X w6 [] (kb100_0 b0) false (Go.Op.buildSlice 148 3 #[(0, Go.Operand.tmp 8), (1, Go.Operand.tmp 11), (2, Go.Operand.tmp 12)]) 148 [(8, x5), (11, x6), (12, x0)] fun x7 w7 =>
  AskW X w7 [] (kb100_0 b0) false 91 [x7] fun x8 w8 =>
  AskW X w8 [] (kb100_0 b0) false 135 [x8] fun x9 w9 =>
  AskF X 9 [x9] fun x10 =>
  Ask (rAgg 26 x10) fun x11 =>
  Ret X w9 [b0] [] x11) := by kernel_rfl
def cRline : Contract := fnW (Cods.cons cBs (Cods.cons cJn (Cods.cons cJn Cods.nil))) (fun p _ => p.2.1 < 256 ∧ p.2.2.1 < 2 ^ 63 ∧ p.1.length ≤ mxF) (fun p _ v _ => v = E (glN p.1 p.2.1 p.2.2.1))
def Trl : Table := (((T0.add 136 cRseed).add 91 cRsum).add 135 cRwide).add 9 cLineOfS
theorem keepTrl : AllKeep Tryd.prog GH Trl := (((keepH0.add keepsRseed).add keepsRsum).add (keepsRwide.inG gGT)).add (keepsLineOf.inG gGT)
theorem keepsRline : Keeps1 Tryd.prog GH 100 cRline := by
  refine keepsW (T := Trl) (A := ann100) hMix keepTrl hGH (calls_of (by kernel_rfl)) (callsW_of (by kernel_rfl)) fun args ⟨f, k, i, _⟩ w0 hrd hpre hg => ?_
  obtain ⟨x, _, rfl, hx, _, _, rfl, rfl, _, _, rfl, rfl, rfl⟩ := hrd
  dsimp only at hx hpre
  replace hx := bs_rd.1 hx
  obtain ⟨hk, hi, hf⟩ := hpre
  simp only [mxF] at hf
  refine ⟨[.x (.v 0), .x (.v 1), .x (.v 2)], [], [], 4, env0 [x, J k, J i] w0, fun b => b, 0, rfl, rfl, fun X hX => mem_none hX rfl, fun X hP hS hw hX hR => ?_⟩
  subst hw; try dsimp only at hR
  rw [vc100 X]
  intro b0 hb0
  refine a_build (lab.map B).toArray hX hP tyB (by decide) (by decide) (by kernel_rfl) rfl (by simp only [maxLen]; omega) fun g w4 w4' hw4 k4 s4 su4 o4 => ?_
  obtain ⟨cur, hrow, hgb, hcur⟩ := own_row o4
  have lo0 : b0 < w4.heap.size := hw4.low (by simp [kb100_0])
  refine a_mark rfl hX.n hP tyB.sl uU8 rfl hrow List.not_mem_nil (hX.n g (Nat.le_trans hw4.sz0 hgb)) (by simp [kb100_0]; omega) fun w5 w5' hw5 k5 s5 su5 row5 => ?_
  have hlb : Bs w5' (.slice (some ⟨g, 0, none⟩) 9 9) lab := ⟨slAt_row' row5 (Nat.le_refl _) (by decide) (fun i x hx => by rw [Nat.zero_add]; exact hcur i x (by simpa using hx)), lab_lt⟩
  refine call_W hX hS (T := Trl) (f := 136) rfl (k, i, ()) (fun w hw => ⟨⟨_, _, rfl, rfl, _, _, rfl, rfl, rfl⟩, hk, hi⟩) fun x8 w8 w8' hw8 k8 s8 su8 o8 => ?_
  dsimp only at o8
  obtain ⟨hsd, _⟩ := own_bs o8 (seedB_lt hk)
  obtain ⟨ax, cx, rfl, _⟩ := slAt_form hx.at_
  obtain ⟨a8, c8, rfl, _⟩ := slAt_form hsd.at_
  refine a_build #[.slice (some ⟨g, 0, none⟩) 9 9, .slice a8 (seedB k i).length c8, .slice ax f.length cx] hX hP tyBB (by decide) (by decide) (by kernel_rfl) rfl (by simp only [maxLen]; omega) fun g2 w9 w9' hw9 k9 s9 su9 o9 => ?_
  have hs9 := own_slAt o9
  refine call_W hX hS (T := Trl) (f := 91) rfl ([lab, seedB k i, f], ()) (fun w hw => ⟨⟨_, _, rfl, bss3 (hs9.stp0 hw.stp) (hlb.stp0 (by simpa using (su8.trans su9).trans hw.stp)) (hsd.stp0 (by simpa using su9.trans hw.stp)) (hx.stp0 (hw.kn.stp0 hX)), rfl⟩, by dsimp only; rw [fl_len]; simp only [mxB]; omega⟩) fun v w10 w10' hw10 k10 s10 su10 hv => ?_
  obtain rfl := hv
  refine call_W hX hS (T := Trl) (f := 135) rfl (sha [lab, seedB k i, f].flatten, ()) (fun w hw => ⟨⟨_, _, rfl, ⟨rfl, sha_len _, sha_lt _⟩, rfl⟩, trivial⟩) fun v w11 w11' hw11 k11 s11 su11 hv => ?_
  obtain rfl := hv
  dsimp only
  refine call_PE hS (T := Trl) (f := 9) rfl (glN f k i) (glN_lt _ _ _) ?_
  refine a_agg (cs := encE (glN f k i)) rfl (by simp [encE, U, Value.oneCell']) ?_
  exact hR _ _ _ _ fun w hw => rfl
#print axioms keepsRline
end Go.Vc
