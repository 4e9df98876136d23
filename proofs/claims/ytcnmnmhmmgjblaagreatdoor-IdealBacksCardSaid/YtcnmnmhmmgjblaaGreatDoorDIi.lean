/-
  The document's way back (veilref16.Back), over the scalars.
-/
import Derived.Test.YtcnmnmhmmgjblaaGreatDoorDIh
namespace Go.Vc
open Go Go.Proofs Go.RowKit
/-- A simulator's tape: TauX, Mu, S, T2, L, R. -/
abbrev StF : Type := F × F × F × F × List F × List F
def stL (t : StF) (l r : Value) : List Value := [l, r] ++ encF t.1 ++ encF t.2.1 ++ encEF t.2.2.1 ++ encEF t.2.2.2.1
theorem stL_len (t : StF) (l r : Value) : (stL t l r).length = 62 := rfl
theorem stL_one {t : StF} {l r : Value} (hl : l.oneCell' = true) (hr : r.oneCell' = true) : (stL t l r).all (·.oneCell') = true := by
  simp only [stL, List.all_append, one_encF, one_encEF, List.all_cons, List.all_nil, hl, hr, Bool.and_true]
def cStF : Cod StF := ⟨fun w v p => ∃ l r, v = .agg (stL p l r).toArray ∧ cLF.rd w l p.2.2.2.2.1 ∧ cLF.rd w r p.2.2.2.2.2, fun w v ⟨a, b, c, d, G, H⟩ ⟨a', b', c', d', G', H'⟩ ⟨g, h, e, hg, hh⟩ ⟨g', h', e', hg', hh'⟩ => by
  dsimp only at hg hh hg' hh'
  rw [e] at e'
  simp only [Value.agg.injEq] at e'
  have e' := congrArg Array.toList e'
  simp only [stL, List.append_assoc] at e'
  obtain ⟨e0, e'⟩ := List.append_inj e' rfl
  obtain ⟨e1, e'⟩ := List.append_inj e' rfl
  obtain ⟨e2, e'⟩ := List.append_inj e' rfl
  obtain ⟨e3, e4⟩ := List.append_inj e' rfl
  simp only [List.cons.injEq, and_true] at e0
  obtain ⟨rfl, rfl⟩ := e0
  rw [encF_inj _ _ e1, encF_inj _ _ e2, encEF_inj _ _ e3, encEF_inj _ _ e4, cLF.inj _ _ _ _ hg hg', cLF.inj _ _ _ _ hh hh']⟩
theorem tpL_zero (l r : Value) (L R : List F) : Value.agg #[U 0, U 0, U 0, U 0, U 0, U 0, U 0, U 0, U 0, U 0, U 0, U 0, U 0, U 0, U 0, U 0, l, r] = .agg (tpL (0, 0, 0, 0, L, R) l r).toArray := by kernel_rfl
theorem view_len (A S T1 T2 y z x taux mu that : F) (l r : Value) : (viewL A S T1 T2 y z x taux mu that l r).length = 130 := by kernel_rfl
theorem view_one {A S T1 T2 y z x taux mu that : F} {l r : Value} (hl : l.oneCell' = true) (hr : r.oneCell' = true) : (viewL A S T1 T2 y z x taux mu that l r).all (·.oneCell') = true := by
  simp only [viewL, List.all_append, one_encF, one_encEF, List.all_cons, List.all_nil, hl, hr, Bool.and_true]
/-- What Back is asked. -/
structure Bk where
  p : SetF
  b : Int
  c : Int
  vs : List (Nat × Nat)
  y : F
  z : F
  x : F
  t : StF
namespace Bk
variable (q : Bk)
def fit : Nat := fitsE q.b q.c q.p.2.2.2.1.length q.p.2.2.2.2.length q.t.2.2.2.2.1.length q.t.2.2.2.2.2.length q.vs
def err : Nat := if q.fit ≠ 0 then q.fit else if zer q.y q.z q.x = true then 4 else if q.p.2.1 = 0 then 61 else 0
def m : Nat := q.b.toNat
def n : Nat := q.c.toNat
def N : Nat := q.m * q.n
def wh (t : TpF) : Wh := ⟨q.p, q.m, q.n, q.vs, t, q.y, q.z, q.x⟩
def still : TpF := (0, 0, 0, 0, List.replicate q.N 0, List.replicate q.N 0)
def dsl (i : Nat) : F := (q.t.2.2.2.2.1.getD i 0 - (q.wh q.still).l i) * finv q.x
def dsr (i : Nat) : F := (q.t.2.2.2.2.2.getD i 0 - (q.wh q.still).r i) * finv q.x * fp (finv q.y) i
def half : TpF := (0, 0, 0, 0, mapN q.dsl q.N, mapN q.dsr q.N)
theorem fams : ∃ fam : Nat → Nat → F, fam 0 = q.dsl ∧ fam 1 = q.dsr := ⟨fun j => if j = 0 then q.dsl else q.dsr, if_pos rfl, if_neg (by decide)⟩
def rho : F := (q.t.2.2.1 - (q.wh q.half).Sg) * finv q.p.2.1
def alpha : F := q.t.2.1 - q.rho * q.x
def tau2 : F := (q.t.2.2.2.1 - (q.wh q.half).T2) * finv q.p.2.1
def tau1 : F := (q.t.1 - (q.wh q.half).taux - q.tau2 * q.x * q.x) * finv q.x
def out : TpF := if q.err = 0 then (q.alpha, q.rho, q.tau1, q.tau2, mapN q.dsl q.N, mapN q.dsr q.N) else (0, 0, 0, 0, [], [])
end Bk
def cBk : Cods Bk := ⟨fun w l d => (Cods.cons cRSetF (Cods.cons cPi (Cods.cons cLO (Cods.cons cSF (Cods.cons cSF (Cods.cons cSF (Cods.cons cStF Cods.nil))))))).rd w l (d.p, (d.b, d.c), d.vs, d.y, d.z, d.x, d.t, ()), fun w l a b h k => by
  have := Cods.inj _ _ _ _ _ h k
  simp only [Prod.mk.injEq, and_true] at this
  obtain ⟨h1, ⟨h2, h3⟩, h4, h5, h6, h7, h8⟩ := this
  obtain ⟨⟩ := a; obtain ⟨⟩ := b
  simp only at h1 h2 h3 h4 h5 h6 h7 h8
  subst h1 h2 h3 h4 h5 h6 h7 h8
  rfl⟩
/-- A tape whose lists are the call's own. -/
def TpOwn (lo : Nat) (w : World) (u : Value) (t : TpF) : Prop := ∃ l r, u = .agg (tpL t l r).toArray ∧ LsF w l t.2.2.2.2.1 ∧ LsF w r t.2.2.2.2.2 ∧ ∀ x ∈ [l, r], ∀ g, x.ownBlock = some g → lo ≤ g ∧ g < w.heap.size
theorem TpOwn.none {lo : Nat} {w : World} {l r : Value} (hl : l = .slice none 0 0) (hr : r = .slice none 0 0) : ∀ x ∈ [l, r], ∀ g, x.ownBlock = some g → lo ≤ g ∧ g < w.heap.size := fun x hx g hg => by
  subst hl hr
  simp only [List.mem_cons, List.not_mem_nil, or_false, or_self] at hx
  subst hx
  cases hg
theorem TpOwn.two {lo : Nat} {w : World} {l r : Value} (hl : ∀ g, l.ownBlock = some g → lo ≤ g ∧ g < w.heap.size) (hr : ∀ g, r.ownBlock = some g → lo ≤ g ∧ g < w.heap.size) : ∀ x ∈ [l, r], ∀ g, x.ownBlock = some g → lo ≤ g ∧ g < w.heap.size := fun x hx g hg => by
  simp only [List.mem_cons, List.not_mem_nil, or_false] at hx
  rcases hx with rfl | rfl
  · exact hl g hg
  · exact hr g hg
def cRBk : Contract := fnW cBk (fun _ _ => True) (fun q w v w' => ∃ u, v = .tuple #[u, J q.err] ∧ TpOwn w.heap.size w' u q.out)
theorem fits0 {b c : Int} {g h s r : Nat} {l : List (Nat × Nat)} (e : fitsE b c g h s r l = 0) : ∃ m n : Nat, b = m ∧ c = n ∧ (0 < m ∧ m ≤ 64) ∧ (0 < n ∧ n ≤ 16) ∧ m * n ≤ g ∧ m * n ≤ h ∧ l.length = n ∧ s = m * n ∧ r = m * n ∧ badV b l = false := by
  unfold fitsE at e
  split at e
  · cases e
  rename_i h1
  split at e
  · cases e
  rename_i h2
  split at e
  · cases e
  rename_i h3
  obtain ⟨m, n, rfl, rfl, hm0, hm1, hn0, hn1⟩ := okPar_spec (by simpa using h1)
  have hN : m * n ≤ 1024 := Nat.le_trans (Nat.mul_le_mul hm1 hn1) (by decide)
  have hs : sizeI (m : Int) (n : Int) = ((m * n : Nat) : Int) := sizeI_nat (by omega)
  simp only [Bool.or_eq_true, not_or, Bool.not_eq_true, Bool.not_eq_false', enB, Bool.and_eq_true, decide_eq_true_eq, bne_eq_false_iff_eq, hs] at h2
  obtain ⟨⟨⟨⟨a1, a2⟩, a3⟩, a4⟩, a5⟩ := h2
  exact ⟨m, n, rfl, rfl, ⟨hm0, hm1⟩, ⟨hn0, hn1⟩, by omega, by omega, by omega, by omega, by omega, by simpa using h3⟩
/-- Two lists made and a variable, in any order. -/
theorem a_makes3 {X : Ctx} {P : Program} {u : World} {ow : List Nat} {bl : List KB} {bl' : Nat → List KB} {t e size bytes n k1 k2 : Nat} {z : Value} (K : Value → Value → World → Nat → Prop) (hX : Std X) (hP : X.P = P) (hT : ElTy P t e size bytes z) (hbytes : bytes * n ≤ 281474976710656) (h63 : n ≤ maxLen) (hbl : ∀ b, b ∈ (bl' b).map (·.b))
    (hK : ∀ s1 s2 W b, Kn X W → Stp ow u W → W.ownsRow u.heap.size e size s1 n (madeCells z.cells (n * size)).toList → W.ownsRow u.heap.size e size s2 n (madeCells z.cells (n * size)).toList → u.heap.size ≤ b → (∀ g, s1.ownBlock = some g → g ∉ [b]) → (∀ g, s2.ownBlock = some g → g ∉ [b]) → K s1 s2 W b) :
    (((AskO X u ow bl false (.makeSlice t (.tmp k1) (.tmp k1)) t [(k1, J n), (k1, J n)] fun x26 w26 => AskO X w26 [] bl false (.makeSlice t (.tmp k2) (.tmp k2)) t [(k2, J n), (k2, J n)] fun x27 w27 => Ask (rPlain x26) fun x28 => Ask (rPlain x27) fun x29 => AskNew w27 fun b8 => K x28 x29 w27 b8) ∧
      (AskO X u ow bl false (.makeSlice t (.tmp k1) (.tmp k1)) t [(k1, J n), (k1, J n)] fun x26 w26 => AskNew w26 fun b8 => AskO X w26 [] (bl' b8) false (.makeSlice t (.tmp k2) (.tmp k2)) t [(k2, J n), (k2, J n)] fun x27 w27 => Ask (rPlain x26) fun x28 => Ask (rPlain x27) fun x29 => K x28 x29 w27 b8)) ∧
      (AskNew u fun b8 => AskO X u ow (bl' b8) false (.makeSlice t (.tmp k1) (.tmp k1)) t [(k1, J n), (k1, J n)] fun x26 w26 => AskO X w26 [] (bl' b8) false (.makeSlice t (.tmp k2) (.tmp k2)) t [(k2, J n), (k2, J n)] fun x27 w27 => Ask (rPlain x26) fun x28 => Ask (rPlain x27) fun x29 => K x28 x29 w27 b8)) ∧
    (((AskO X u ow bl false (.makeSlice t (.tmp k2) (.tmp k2)) t [(k2, J n), (k2, J n)] fun x26 w26 => AskO X w26 [] bl false (.makeSlice t (.tmp k1) (.tmp k1)) t [(k1, J n), (k1, J n)] fun x27 w27 => Ask (rPlain x27) fun x28 => Ask (rPlain x26) fun x29 => AskNew w27 fun b8 => K x28 x29 w27 b8) ∧
      (AskO X u ow bl false (.makeSlice t (.tmp k2) (.tmp k2)) t [(k2, J n), (k2, J n)] fun x26 w26 => AskNew w26 fun b8 => AskO X w26 [] (bl' b8) false (.makeSlice t (.tmp k1) (.tmp k1)) t [(k1, J n), (k1, J n)] fun x27 w27 => Ask (rPlain x27) fun x28 => Ask (rPlain x26) fun x29 => K x28 x29 w27 b8)) ∧
      (AskNew u fun b8 => AskO X u ow (bl' b8) false (.makeSlice t (.tmp k2) (.tmp k2)) t [(k2, J n), (k2, J n)] fun x26 w26 => AskO X w26 [] (bl' b8) false (.makeSlice t (.tmp k1) (.tmp k1)) t [(k1, J n), (k1, J n)] fun x27 w27 => Ask (rPlain x27) fun x28 => Ask (rPlain x26) fun x29 => K x28 x29 w27 b8)) := by
  have two : ∀ {k1 k2 : Nat} {K0 : Value → Value → World → Prop} {K1 : Value → Value → World → Nat → Prop},
      (∀ s1 s2 W, Kn X W → Stp ow u W → W.ownsRow u.heap.size e size s1 n (madeCells z.cells (n * size)).toList → W.ownsRow u.heap.size e size s2 n (madeCells z.cells (n * size)).toList → u.heap.size ≤ W.heap.size → K0 s1 s2 W) →
      (∀ s1 s2 W b, Kn X W → Stp ow u W → W.ownsRow u.heap.size e size s1 n (madeCells z.cells (n * size)).toList → W.ownsRow u.heap.size e size s2 n (madeCells z.cells (n * size)).toList → u.heap.size ≤ b → (∀ g, s1.ownBlock = some g → g ∉ [b]) → (∀ g, s2.ownBlock = some g → g ∉ [b]) → K1 s1 s2 W b) →
      ((AskO X u ow bl false (.makeSlice t (.tmp k1) (.tmp k1)) t [(k1, J n), (k1, J n)] fun x26 w26 => AskO X w26 [] bl false (.makeSlice t (.tmp k2) (.tmp k2)) t [(k2, J n), (k2, J n)] fun x27 w27 => K0 x26 x27 w27) ∧
      (AskO X u ow bl false (.makeSlice t (.tmp k1) (.tmp k1)) t [(k1, J n), (k1, J n)] fun x26 w26 => AskNew w26 fun b8 => AskO X w26 [] (bl' b8) false (.makeSlice t (.tmp k2) (.tmp k2)) t [(k2, J n), (k2, J n)] fun x27 w27 => K1 x26 x27 w27 b8)) ∧
      (AskNew u fun b8 => AskO X u ow (bl' b8) false (.makeSlice t (.tmp k1) (.tmp k1)) t [(k1, J n), (k1, J n)] fun x26 w26 => AskO X w26 [] (bl' b8) false (.makeSlice t (.tmp k2) (.tmp k2)) t [(k2, J n), (k2, J n)] fun x27 w27 => K1 x26 x27 w27 b8) := fun {k1 k2 K0 K1} hK0 hK1 => by
    refine ⟨⟨?_, ?_⟩, ?_⟩
    · refine a_make (n := n) hX hP hT (by simp [argsFn]) (by simp [argsFn]) hbytes h63 fun g1 v1 w1 h1 k1 s1 su1 o1 => ?_
      refine a_make (n := n) hX hP hT (by simp [argsFn]) (by simp [argsFn]) hbytes h63 fun g2 v2 w2 h2 k2 s2 su2 o2 => ?_
      have q1 := own_stp0 o1 su2
      have z1 := h1.size; have z2 := h2.size; have z3 := s1.size; have z4 := s2.size
      exact hK0 _ _ _ k2 (by simpa using su1.trans su2) (own_mono q1 h1.size) (own_mono o2 (by omega)) (by omega)
    · refine a_make (n := n) hX hP hT (by simp [argsFn]) (by simp [argsFn]) hbytes h63 fun g1 v1 w1 h1 k1 s1 su1 o1 => ?_
      intro b8 hb8
      refine a_make (n := n) hX hP hT (by simp [argsFn]) (by simp [argsFn]) hbytes h63 fun g2 v2 w2 h2 k2 s2 su2 o2 => ?_
      have lo := h2.low (hbl b8)
      have z1 := h1.size; have z2 := h2.size; have z3 := s1.size; have z4 := s2.size
      exact hK1 _ _ _ b8 k2 (by simpa using su1.trans su2) (own_mono (own_stp0 o1 su2) h1.size) (own_mono o2 (by omega)) (by omega) (fun g hg hm => by have := (o1.lt g hg).2; simp at hm; omega) (fun g hg hm => by have := (o2.lt g hg).1; simp at hm; omega)
    · intro b8 hb8
      refine a_make (n := n) hX hP hT (by simp [argsFn]) (by simp [argsFn]) hbytes h63 fun g1 v1 w1 h1 k1 s1 su1 o1 => ?_
      refine a_make (n := n) hX hP hT (by simp [argsFn]) (by simp [argsFn]) hbytes h63 fun g2 v2 w2 h2 k2 s2 su2 o2 => ?_
      have lo := h1.low (hbl b8)
      have z1 := h1.size; have z2 := h2.size; have z3 := s1.size; have z4 := s2.size
      exact hK1 _ _ _ b8 k2 (by simpa using su1.trans su2) (own_mono (own_stp0 o1 su2) h1.size) (own_mono o2 (by omega)) hb8 (fun g hg hm => by have := (o1.lt g hg).1; simp at hm; omega) (fun g hg hm => by have := (o2.lt g hg).1; simp at hm; omega)
  have off : ∀ {s : Value} {W : World} {b m : Nat} {xs : List Value}, W.ownsRow m e size s n xs → W.heap.size ≤ b → ∀ g, s.ownBlock = some g → g ∉ [b] := fun o hb g hg hm => by
    have := (o.lt g hg).2; simp at hm; omega
  refine ⟨?_, ?_⟩
  · exact two (K0 := fun x26 x27 w27 => Ask (rPlain x26) fun x28 => Ask (rPlain x27) fun x29 => AskNew w27 fun b8 => K x28 x29 w27 b8) (K1 := fun x26 x27 w27 b8 => Ask (rPlain x26) fun x28 => Ask (rPlain x27) fun x29 => K x28 x29 w27 b8)
      (fun s1 s2 W h1 h2 h3 h4 h5 => a_plain (own_one h3) (a_plain (own_one h4) fun b hb => hK s1 s2 W b h1 h2 h3 h4 (Nat.le_trans h5 hb) (off h3 hb) (off h4 hb)))
      fun s1 s2 W b h1 h2 h3 h4 h5 h6 h7 => a_plain (own_one h3) (a_plain (own_one h4) (hK s1 s2 W b h1 h2 h3 h4 h5 h6 h7))
  · exact two (K0 := fun x26 x27 w27 => Ask (rPlain x27) fun x28 => Ask (rPlain x26) fun x29 => AskNew w27 fun b8 => K x28 x29 w27 b8) (K1 := fun x26 x27 w27 b8 => Ask (rPlain x27) fun x28 => Ask (rPlain x26) fun x29 => K x28 x29 w27 b8)
      (fun s1 s2 W h1 h2 h3 h4 h5 => a_plain (own_one h4) (a_plain (own_one h3) fun b hb => hK s2 s1 W b h1 h2 h4 h3 (Nat.le_trans h5 hb) (off h4 hb) (off h3 hb)))
      fun s1 s2 W b h1 h2 h3 h4 h5 h6 h7 => a_plain (own_one h4) (a_plain (own_one h3) (hK s2 s1 W b h1 h2 h4 h3 h5 h7 h6))
theorem off_last {g n n' b0 b1 b2 b3 b4 b5 b6 b7 b8 b9 b10 b11 b12 b13 b14 : Nat} (h1 : g < n) (h2 : n ≤ n') (h3 : n' ≤ b14) (h : g ∉ [b13, b12, b11, b10, b9, b8, b7, b6, b5, b4, b3, b2, b1, b0]) : g ∉ [b6, b10, b10, b10, b10, b14, b9] := by
  simp only [List.mem_cons, List.not_mem_nil, or_false, not_or] at h ⊢
  omega
theorem tp_fold (a r t1 t2 : F) (L R : List F) (x y : Value) : Value.agg #[U (lb a.val 0), U (lb a.val 1), U (lb a.val 2), U (lb a.val 3), U (lb r.val 0), U (lb r.val 1), U (lb r.val 2), U (lb r.val 3), U (lb t1.val 0), U (lb t1.val 1), U (lb t1.val 2), U (lb t1.val 3), U (lb t2.val 0), U (lb t2.val 1), U (lb t2.val 2), U (lb t2.val 3), x, y] = .agg (tpL (a, r, t1, t2, L, R) x y).toArray := rfl
def Tbk : Table := ((((((((T0.add 23 cSize).add 57 cRInt).add 58 cRSub).add 59 cqMul).add 56 cRInv).add 54 cqRIsZ).add 53 cRZe).add 52 cRFits).add 55 cRWh
theorem keepTbk : AllKeep Tryz.prog GT Tbk := ((((((((keepT0.add keepsSize).add keepsRInt).add keepsRSub).add keepsqRMul).add keepsRInv).add keepsqRIsZ).add keepsRZe).add keepsRFits).add keepsRWh
section
variable {X : Ctx} {K : Value → Prop}
theorem b_Sub (hS : X.S = Tbk.spec) {a b : F} (hK : K (S (a - b).val)) : AskF X 58 [S a.val, S b.val] K := call_PE hS (T := Tbk) (f := 58) rfl (a.val, b.val) ⟨a.isLt, b.isLt⟩ (by dsimp only; rw [rF_val, rF_val]; exact hK)
theorem b_Mul (hS : X.S = Tbk.spec) {a b : F} (hK : K (S (a * b).val)) : AskF X 59 [S a.val, S b.val] K := call_PE hS (T := Tbk) (f := 59) rfl (a.val, b.val) ⟨val_lt a, val_lt b⟩ (by dsimp only; rw [rF_val, rF_val]; exact hK)
theorem b_Inv (hS : X.S = Tbk.spec) {a : F} (hK : K (S (finv a).val)) : AskF X 56 [S a.val] K := call_PE hS (T := Tbk) (f := 56) rfl a.val a.isLt (by rw [rF_val]; exact hK)
theorem b_One (hS : X.S = Tbk.spec) (hK : K (S (1 : F).val)) : AskF X 57 [U 1] K := call_PE hS (T := Tbk) (f := 57) rfl 1 (by decide) hK
end
def ann12 : Ann := ⟨[(17, ([26], [10, 13]))], [23, 57, 58, 59, 56, 54, 53], 70, [(52, false), (55, false)], [10, 11, 12, 23, 24, 25, 27], none, [1000019], []⟩
def kb12_0 (b0 b1 b2 b3 b4 b5 b6 b7 : Nat) (x9 x1 x2 x10 x11 x12 x13 x19 x20 : Value) : List KB := [⟨b0, true, 65, (aggArr x9)⟩, ⟨b1, true, 45, #[x1, x2]⟩, ⟨b2, true, 49, (aggArr x10)⟩, ⟨b3, true, 49, (aggArr x11)⟩, ⟨b4, true, 49, (aggArr x12)⟩, ⟨b5, true, 71, (aggArr x13)⟩, ⟨b6, true, 52, #[(U 0), (U 0), (U 0), (U 0), (U 0), (U 0), (U 0), (U 0), (U 0), (U 0), (U 0), (U 0), (U 0), (U 0), (U 0), (U 0), (.slice none 0 0), (.slice none 0 0)]⟩, ⟨b7, true, 52, #[(U 0), (U 0), (U 0), (U 0), (U 0), (U 0), (U 0), (U 0), (U 0), (U 0), (U 0), (U 0), (U 0), (U 0), (U 0), (U 0), x19, x20]⟩]
def kb12_1 (b0 b1 b2 b3 b4 b5 b6 b7 b8 : Nat) (x9 x1 x2 x10 x11 x12 x13 x19 x20 x30 x31 : Value) : List KB := [⟨b0, true, 65, (aggArr x9)⟩, ⟨b1, true, 45, #[x1, x2]⟩, ⟨b2, true, 49, (aggArr x10)⟩, ⟨b3, true, 49, (aggArr x11)⟩, ⟨b4, true, 49, (aggArr x12)⟩, ⟨b5, true, 71, (aggArr x13)⟩, ⟨b6, true, 52, #[(U 0), (U 0), (U 0), (U 0), (U 0), (U 0), (U 0), (U 0), (U 0), (U 0), (U 0), (U 0), (U 0), (U 0), (U 0), (U 0), (.slice none 0 0), (.slice none 0 0)]⟩, ⟨b7, true, 52, #[(U 0), (U 0), (U 0), (U 0), (U 0), (U 0), (U 0), (U 0), (U 0), (U 0), (U 0), (U 0), (U 0), (U 0), (U 0), (U 0), x19, x20]⟩, ⟨b8, true, 52, #[(U 0), (U 0), (U 0), (U 0), (U 0), (U 0), (U 0), (U 0), (U 0), (U 0), (U 0), (U 0), (U 0), (U 0), (U 0), (U 0), x30, x31]⟩]
def kb12_2 (b0 b1 b2 b3 b4 b5 b6 b7 b8 b9 b10 b11 b12 b13 : Nat) (x9 x1 x2 x10 x11 x12 x13 x19 x20 x30 x31 x35 x38 x41 x44 : Value) : List KB := [⟨b0, true, 65, (aggArr x9)⟩, ⟨b1, true, 45, #[x1, x2]⟩, ⟨b2, true, 49, (aggArr x10)⟩, ⟨b3, true, 49, (aggArr x11)⟩, ⟨b4, true, 49, (aggArr x12)⟩, ⟨b5, true, 71, (aggArr x13)⟩, ⟨b6, true, 52, #[(U 0), (U 0), (U 0), (U 0), (U 0), (U 0), (U 0), (U 0), (U 0), (U 0), (U 0), (U 0), (U 0), (U 0), (U 0), (U 0), (.slice none 0 0), (.slice none 0 0)]⟩, ⟨b7, true, 52, #[(U 0), (U 0), (U 0), (U 0), (U 0), (U 0), (U 0), (U 0), (U 0), (U 0), (U 0), (U 0), (U 0), (U 0), (U 0), (U 0), x19, x20]⟩, ⟨b8, true, 52, #[(U 0), (U 0), (U 0), (U 0), (U 0), (U 0), (U 0), (U 0), (U 0), (U 0), (U 0), (U 0), (U 0), (U 0), (U 0), (U 0), x30, x31]⟩, ⟨b9, true, 122, (aggArr x35)⟩, ⟨b10, true, 52, #[(U 0), (U 0), (U 0), (U 0), (U 0), (U 0), (U 0), (U 0), (U 0), (U 0), (U 0), (U 0), (U 0), (U 0), (U 0), (U 0), (.slice none 0 0), (.slice none 0 0)]⟩, ⟨b11, true, 49, (aggArr x38)⟩, ⟨b12, true, 49, (aggArr x41)⟩, ⟨b13, true, 49, (aggArr x44)⟩]
def kb12_3 (b0 b1 b2 b3 b4 b5 b6 b7 b8 b9 b10 b11 b12 b13 : Nat) (x9 x1 x2 x10 x11 x12 x13 x19 x20 x30 x31 x35 x46 x47 x48 x49 x50 x51 x52 x53 x54 x55 x56 x57 x58 x59 x60 x61 x62 x63 x38 x41 x64 : Value) : List KB := [⟨b0, true, 65, (aggArr x9)⟩, ⟨b1, true, 45, #[x1, x2]⟩, ⟨b2, true, 49, (aggArr x10)⟩, ⟨b3, true, 49, (aggArr x11)⟩, ⟨b4, true, 49, (aggArr x12)⟩, ⟨b5, true, 71, (aggArr x13)⟩, ⟨b6, true, 52, #[(U 0), (U 0), (U 0), (U 0), (U 0), (U 0), (U 0), (U 0), (U 0), (U 0), (U 0), (U 0), (U 0), (U 0), (U 0), (U 0), (.slice none 0 0), (.slice none 0 0)]⟩, ⟨b7, true, 52, #[(U 0), (U 0), (U 0), (U 0), (U 0), (U 0), (U 0), (U 0), (U 0), (U 0), (U 0), (U 0), (U 0), (U 0), (U 0), (U 0), x19, x20]⟩, ⟨b8, true, 52, #[(U 0), (U 0), (U 0), (U 0), (U 0), (U 0), (U 0), (U 0), (U 0), (U 0), (U 0), (U 0), (U 0), (U 0), (U 0), (U 0), x30, x31]⟩, ⟨b9, true, 122, (aggArr x35)⟩, ⟨b10, true, 52, #[x46, x47, x48, x49, x50, x51, x52, x53, x54, x55, x56, x57, x58, x59, x60, x61, x62, x63]⟩, ⟨b11, true, 49, (aggArr x38)⟩, ⟨b12, true, 49, (aggArr x41)⟩, ⟨b13, true, 49, (aggArr x64)⟩]
def kb12_4 (b0 b1 b2 b3 b4 b5 b6 b7 b8 b9 b10 b11 b12 b13 : Nat) (x9 x1 x2 x10 x11 x12 x13 x19 x20 x30 x31 x35 x46 x47 x48 x49 x50 x51 x52 x53 x54 x55 x56 x57 x58 x59 x60 x61 x77 x63 x38 x41 x64 : Value) : List KB := [⟨b0, true, 65, (aggArr x9)⟩, ⟨b1, true, 45, #[x1, x2]⟩, ⟨b2, true, 49, (aggArr x10)⟩, ⟨b3, true, 49, (aggArr x11)⟩, ⟨b4, true, 49, (aggArr x12)⟩, ⟨b5, true, 71, (aggArr x13)⟩, ⟨b6, true, 52, #[(U 0), (U 0), (U 0), (U 0), (U 0), (U 0), (U 0), (U 0), (U 0), (U 0), (U 0), (U 0), (U 0), (U 0), (U 0), (U 0), (.slice none 0 0), (.slice none 0 0)]⟩, ⟨b7, true, 52, #[(U 0), (U 0), (U 0), (U 0), (U 0), (U 0), (U 0), (U 0), (U 0), (U 0), (U 0), (U 0), (U 0), (U 0), (U 0), (U 0), x19, x20]⟩, ⟨b8, true, 52, #[(U 0), (U 0), (U 0), (U 0), (U 0), (U 0), (U 0), (U 0), (U 0), (U 0), (U 0), (U 0), (U 0), (U 0), (U 0), (U 0), x30, x31]⟩, ⟨b9, true, 122, (aggArr x35)⟩, ⟨b10, true, 52, #[x46, x47, x48, x49, x50, x51, x52, x53, x54, x55, x56, x57, x58, x59, x60, x61, x77, x63]⟩, ⟨b11, true, 49, (aggArr x38)⟩, ⟨b12, true, 49, (aggArr x41)⟩, ⟨b13, true, 49, (aggArr x64)⟩]
def kb12_5 (b0 b1 b2 b3 b4 b5 b6 b7 b8 : Nat) (x9 x1 x2 x10 x11 x12 x13 x19 x20 : Value) : List KB := [⟨b0, true, 65, (aggArr x9)⟩, ⟨b1, true, 45, #[x1, x2]⟩, ⟨b2, true, 49, (aggArr x10)⟩, ⟨b3, true, 49, (aggArr x11)⟩, ⟨b4, true, 49, (aggArr x12)⟩, ⟨b5, true, 71, (aggArr x13)⟩, ⟨b6, true, 52, #[(U 0), (U 0), (U 0), (U 0), (U 0), (U 0), (U 0), (U 0), (U 0), (U 0), (U 0), (U 0), (U 0), (U 0), (U 0), (U 0), (.slice none 0 0), (.slice none 0 0)]⟩, ⟨b7, true, 52, #[(U 0), (U 0), (U 0), (U 0), (U 0), (U 0), (U 0), (U 0), (U 0), (U 0), (U 0), (U 0), (U 0), (U 0), (U 0), (U 0), x19, x20]⟩, ⟨b8, true, 52, #[(U 0), (U 0), (U 0), (U 0), (U 0), (U 0), (U 0), (U 0), (U 0), (U 0), (U 0), (U 0), (U 0), (U 0), (U 0), (U 0), (.slice none 0 0), (.slice none 0 0)]⟩]
theorem vc12 (X : Ctx) (β : Nat → Nat) (x0 x1 x2 x3 x4 x5 x6 x7 : Value) : (run Tryz.prog ann12 12 [.x (.v 0), .l [.v 1, .v 2], .x (.v 3), .x (.v 4), .x (.v 5), .x (.v 6), .x (.v 7)] [] [] 9).den X (env0 [x0, x1, x2, x3, x4, x5, x6, x7] X.w0) 9 β 0 (fun _ _ _ => False) = (
 Ask (rAgg 81 x0) fun x9 =>
 AskNew X.w0 fun b0 =>
 AskNew X.w0 fun b1 =>
 Ask (rAgg 4 x4) fun x10 =>
 AskNew X.w0 fun b2 =>
 Ask (rAgg 4 x5) fun x11 =>
 AskNew X.w0 fun b3 =>
 Ask (rAgg 4 x6) fun x12 =>
 AskNew X.w0 fun b4 =>
 Ask (rAgg 62 x7) fun x13 =>
 AskNew X.w0 fun b5 =>
 AskNew X.w0 fun b6 =>
 AskF X 23 [(.agg #[x1, x2])] fun x14 =>
 Ask (rSel (aggArr x13) 0 1 false) fun x15 =>
 Ask (rSel (aggArr x13) 1 1 false) fun x16 =>
 Ask (rPlain x15) fun x17 =>
 Ask (rPlain x16) fun x18 =>
 AskNew X.w0 fun b7 =>
 Ask (rPlain x17) fun x19 =>
 Ask (rPlain x18) fun x20 =>
 AskW X X.w0 [b7] (kb12_0 b0 b1 b2 b3 b4 b5 b6 b7 x9 x1 x2 x10 x11 x12 x13 x19 x20) false 52 [x9, (.agg #[x1, x2]), x3, (.agg #[(U 0), (U 0), (U 0), (U 0), (U 0), (U 0), (U 0), (U 0), (U 0), (U 0), (U 0), (U 0), (U 0), (U 0), (U 0), (U 0), x19, x20])] fun x21 w21 =>
 Ask (rBin X.P .neq 37 false true x21 (J 0)) fun x22 =>
 (∃ t, x22 = .bool t) ∧ (x22 = .bool true →
 Ret X w21 [b6] [] (.tuple #[(.agg #[(U 0), (U 0), (U 0), (U 0), (U 0), (U 0), (U 0), (U 0), (U 0), (U 0), (U 0), (U 0), (U 0), (U 0), (U 0), (U 0), (.slice none 0 0), (.slice none 0 0)]), x21])) ∧ (x22 = .bool false →
 AskF X 53 [x10, x11, x12] fun x23 =>
 (∃ t, x23 = .bool t) ∧ (x23 = .bool true →
 Ret X w21 [b6] [] (.tuple #[(.agg #[(U 0), (U 0), (U 0), (U 0), (U 0), (U 0), (U 0), (U 0), (U 0), (U 0), (U 0), (U 0), (U 0), (U 0), (U 0), (U 0), (.slice none 0 0), (.slice none 0 0)]), (J 4)])) ∧ (x23 = .bool false →
 Ask (rSel (aggArr x9) 48 4 true) fun x24 =>
 AskF X 54 [x24] fun x25 =>
 (∃ t, x25 = .bool t) ∧ (x25 = .bool true →
 Ret X w21 [b6] [] (.tuple #[(.agg #[(U 0), (U 0), (U 0), (U 0), (U 0), (U 0), (U 0), (U 0), (U 0), (U 0), (U 0), (U 0), (U 0), (U 0), (U 0), (U 0), (.slice none 0 0), (.slice none 0 0)]), (J 61)])) ∧ (x25 = .bool false →
 ((
 ((
 ((
 AskO X w21 [] (kb12_0 b0 b1 b2 b3 b4 b5 b6 b7 x9 x1 x2 x10 x11 x12 x13 x19 x20) false (Op.makeSlice 50 (Operand.tmp 54) (Operand.tmp 54)) 50 [(54, x14), (54, x14)] fun x26 w26 =>
 AskO X w26 [] (kb12_0 b0 b1 b2 b3 b4 b5 b6 b7 x9 x1 x2 x10 x11 x12 x13 x19 x20) false (Op.makeSlice 50 (Operand.tmp 56) (Operand.tmp 56)) 50 [(56, x14), (56, x14)] fun x27 w27 =>
 Ask (rPlain x26) fun x28 =>
 Ask (rPlain x27) fun x29 =>
 AskNew w27 fun b8 =>
 Ask (rPlain x28) fun x30 =>
 Ask (rPlain x29) fun x31 =>
 AskW X w27 [b8] (kb12_1 b0 b1 b2 b3 b4 b5 b6 b7 b8 x9 x1 x2 x10 x11 x12 x13 x19 x20 x30 x31) false 55 [x9, (.agg #[x1, x2]), x3, (.agg #[(U 0), (U 0), (U 0), (U 0), (U 0), (U 0), (U 0), (U 0), (U 0), (U 0), (U 0), (U 0), (U 0), (U 0), (U 0), (U 0), x30, x31]), x10, x11, x12] fun x32 w32 =>
 Ask (rExt X.P x32 0) fun _ =>
 Ask (rExt X.P x32 1) fun x34 =>
 AskNew w32 fun b9 =>
 Ask (rAgg 130 x34) fun x35 =>
 AskNew w32 fun b10 =>
 AskF X 56 [x12] fun x36 =>
 Ask (rAgg 4 (.agg #[(U 0), (U 0), (U 0), (U 0)])) fun _ =>
 AskNew w32 fun b11 =>
 Ask (rAgg 4 x36) fun x38 =>
 AskF X 56 [x10] fun x39 =>
 Ask (rAgg 4 (.agg #[(U 0), (U 0), (U 0), (U 0)])) fun _ =>
 AskNew w32 fun b12 =>
 Ask (rAgg 4 x39) fun x41 =>
 AskF X 57 [(U 1)] fun x42 =>
 Ask (rAgg 4 (.agg #[(U 0), (U 0), (U 0), (U 0)])) fun _ =>
 AskNew w32 fun b13 =>
 Ask (rAgg 4 x42) fun x44 =>
 ∃ (I0 : List Value → World → Prop) (μ0 : List Value → World → Nat), (∀ w, KnownV X w32 [b13, b12, b11, b10, b9] (kb12_2 b0 b1 b2 b3 b4 b5 b6 b7 b8 b9 b10 b11 b12 b13 x9 x1 x2 x10 x11 x12 x13 x19 x20 x30 x31 x35 x38 x41 x44) w → I0 [(J 0), (U 0), (U 0), (U 0), (U 0), (U 0), (U 0), (U 0), (U 0), (U 0), (U 0), (U 0), (U 0), (U 0), (U 0), (U 0), (U 0), (.slice none 0 0), (.slice none 0 0), x44] w) ∧ ∀ x45 x46 x47 x48 x49 x50 x51 x52 x53 x54 x55 x56 x57 x58 x59 x60 x61 x62 x63 x64 w65, I0 [x45, x46, x47, x48, x49, x50, x51, x52, x53, x54, x55, x56, x57, x58, x59, x60, x61, x62, x63, x64] w65 →
 Ask (rBin X.P .lss 3 false false x45 x14) fun x66 =>
 (∃ t, x66 = .bool t) ∧ (x66 = .bool true →
 Ask (rSel (aggArr x13) 0 1 false) fun x67 =>
 Ask (rIad X.P 50 x67 x45) fun x68 =>
 Ask (rLoad X w65 [] 49 x68) fun x69 =>
 Ask (rSel (aggArr x35) 128 1 false) fun x70 =>
 Ask (rIad X.P 50 x70 x45) fun x71 =>
 Ask (rLoad X w65 [] 49 x71) fun x72 =>
 AskF X 58 [x69, x72] fun x73 =>
 AskF X 59 [x73, x38] fun x74 =>
 AskO X w65 [] (kb12_3 b0 b1 b2 b3 b4 b5 b6 b7 b8 b9 b10 b11 b12 b13 x9 x1 x2 x10 x11 x12 x13 x19 x20 x30 x31 x35 x46 x47 x48 x49 x50 x51 x52 x53 x54 x55 x56 x57 x58 x59 x60 x61 x62 x63 x38 x41 x64) false (Op.buildSlice 50 1 #[(0, Operand.tmp 95)]) 50 [(95, x74)] fun x75 w75 =>
 AskO X w75 [] (kb12_3 b0 b1 b2 b3 b4 b5 b6 b7 b8 b9 b10 b11 b12 b13 x9 x1 x2 x10 x11 x12 x13 x19 x20 x30 x31 x35 x46 x47 x48 x49 x50 x51 x52 x53 x54 x55 x56 x57 x58 x59 x60 x61 x62 x63 x38 x41 x64) true (appOp (.tmp 82) (.tmp 96) 50) 50 [(82, x62), (96, x75)] fun x76 w76 =>
 Ask (rPlain x76) fun x77 =>
 Ask (rSel (aggArr x13) 1 1 false) fun x78 =>
 Ask (rIad X.P 50 x78 x45) fun x79 =>
 Ask (rLoad X w76 [b10] 49 x79) fun x80 =>
 Ask (rSel (aggArr x35) 129 1 false) fun x81 =>
 Ask (rIad X.P 50 x81 x45) fun x82 =>
 Ask (rLoad X w76 [b10] 49 x82) fun x83 =>
 AskF X 58 [x80, x83] fun x84 =>
 AskF X 59 [x84, x38] fun x85 =>
 AskF X 59 [x85, x64] fun x86 =>
 AskO X w76 [b10] (kb12_4 b0 b1 b2 b3 b4 b5 b6 b7 b8 b9 b10 b11 b12 b13 x9 x1 x2 x10 x11 x12 x13 x19 x20 x30 x31 x35 x46 x47 x48 x49 x50 x51 x52 x53 x54 x55 x56 x57 x58 x59 x60 x61 x77 x63 x38 x41 x64) false (Op.buildSlice 50 1 #[(0, Operand.tmp 115)]) 50 [(115, x86)] fun x87 w87 =>
 AskO X w87 [] (kb12_4 b0 b1 b2 b3 b4 b5 b6 b7 b8 b9 b10 b11 b12 b13 x9 x1 x2 x10 x11 x12 x13 x19 x20 x30 x31 x35 x46 x47 x48 x49 x50 x51 x52 x53 x54 x55 x56 x57 x58 x59 x60 x61 x77 x63 x38 x41 x64) true (appOp (.tmp 100) (.tmp 116) 50) 50 [(100, x63), (116, x87)] fun x88 w88 =>
 Ask (rPlain x88) fun x89 =>
 AskF X 59 [x64, x41] fun x90 =>
 Ask (rAgg 4 x90) fun x91 =>
 Ask (rBin X.P .add 3 false true x45 (J 1)) fun x92 =>
 Again X w88 [b13, b10] [] fun w => I0 [x92, x46, x47, x48, x49, x50, x51, x52, x53, x54, x55, x56, x57, x58, x59, x60, x61, x77, x89, x91] w ∧ μ0 [x92, x46, x47, x48, x49, x50, x51, x52, x53, x54, x55, x56, x57, x58, x59, x60, x61, x77, x89, x91] w < μ0 [x45, x46, x47, x48, x49, x50, x51, x52, x53, x54, x55, x56, x57, x58, x59, x60, x61, x62, x63, x64] w65) ∧ (x66 = .bool false →
 Ask (rPlain x62) fun x67 =>
 Ask (rPlain x63) fun x68 =>
 AskW X w65 [] (kb12_3 b0 b1 b2 b3 b4 b5 b6 b7 b8 b9 b10 b11 b12 b13 x9 x1 x2 x10 x11 x12 x13 x19 x20 x30 x31 x35 x46 x47 x48 x49 x50 x51 x52 x53 x54 x55 x56 x57 x58 x59 x60 x61 x62 x63 x38 x41 x64) false 55 [x9, (.agg #[x1, x2]), x3, (.agg #[(U 0), (U 0), (U 0), (U 0), (U 0), (U 0), (U 0), (U 0), (U 0), (U 0), (U 0), (U 0), (U 0), (U 0), (U 0), (U 0), x67, x68]), x10, x11, x12] fun x69 w69 =>
 Ask (rExt X.P x69 0) fun _ =>
 Ask (rExt X.P x69 1) fun x71 =>
 Ask (rAgg 130 x71) fun x72 =>
 Ask (rSel (aggArr x9) 48 4 true) fun x73 =>
 AskF X 56 [x73] fun x74 =>
 Ask (rAgg 4 (.agg #[(U 0), (U 0), (U 0), (U 0)])) fun _ =>
 AskNew w69 fun b14 =>
 Ask (rAgg 4 x74) fun x76 =>
 Ask (rSel (aggArr x13) 31 4 true) fun x77 =>
 Ask (rSel (aggArr x72) 47 4 true) fun x78 =>
 AskF X 58 [x77, x78] fun x79 =>
 AskF X 59 [x79, x76] fun x80 =>
 Ask (rAgg 4 x80) fun x81 =>
 Ask (rSel (aggArr x81) 0 1 false) fun x82 =>
 Ask (rSel (aggArr x81) 1 1 false) fun x83 =>
 Ask (rSel (aggArr x81) 2 1 false) fun x84 =>
 Ask (rSel (aggArr x81) 3 1 false) fun x85 =>
 Ask (rSel (aggArr x13) 6 4 true) fun x86 =>
 AskF X 59 [(.agg #[x82, x83, x84, x85]), x12] fun x87 =>
 AskF X 58 [x86, x87] fun x88 =>
 Ask (rAgg 4 x88) fun x89 =>
 Ask (rSel (aggArr x89) 0 1 false) fun x90 =>
 Ask (rSel (aggArr x89) 1 1 false) fun x91 =>
 Ask (rSel (aggArr x89) 2 1 false) fun x92 =>
 Ask (rSel (aggArr x89) 3 1 false) fun x93 =>
 Ask (rSel (aggArr x13) 57 4 true) fun x94 =>
 Ask (rSel (aggArr x72) 99 4 true) fun x95 =>
 AskF X 58 [x94, x95] fun x96 =>
 AskF X 59 [x96, x76] fun x97 =>
 Ask (rAgg 4 x97) fun x98 =>
 Ask (rSel (aggArr x98) 0 1 false) fun x99 =>
 Ask (rSel (aggArr x98) 1 1 false) fun x100 =>
 Ask (rSel (aggArr x98) 2 1 false) fun x101 =>
 Ask (rSel (aggArr x98) 3 1 false) fun x102 =>
 Ask (rSel (aggArr x13) 2 4 true) fun x103 =>
 Ask (rSel (aggArr x72) 116 4 true) fun x104 =>
 AskF X 58 [x103, x104] fun x105 =>
 AskF X 59 [(.agg #[x99, x100, x101, x102]), x12] fun x106 =>
 AskF X 59 [x106, x12] fun x107 =>
 AskF X 58 [x105, x107] fun x108 =>
 AskF X 59 [x108, x38] fun x109 =>
 Ask (rAgg 4 x109) fun x110 =>
 Ask (rSel (aggArr x110) 0 1 false) fun x111 =>
 Ask (rSel (aggArr x110) 1 1 false) fun x112 =>
 Ask (rSel (aggArr x110) 2 1 false) fun x113 =>
 Ask (rSel (aggArr x110) 3 1 false) fun x114 =>
 Ask (rPlain x90) fun x115 =>
 Ask (rPlain x91) fun x116 =>
 Ask (rPlain x92) fun x117 =>
 Ask (rPlain x93) fun x118 =>
 Ask (rPlain x82) fun x119 =>
 Ask (rPlain x83) fun x120 =>
 Ask (rPlain x84) fun x121 =>
 Ask (rPlain x85) fun x122 =>
 Ask (rPlain x111) fun x123 =>
 Ask (rPlain x112) fun x124 =>
 Ask (rPlain x113) fun x125 =>
 Ask (rPlain x114) fun x126 =>
 Ask (rPlain x99) fun x127 =>
 Ask (rPlain x100) fun x128 =>
 Ask (rPlain x101) fun x129 =>
 Ask (rPlain x102) fun x130 =>
 Ask (rPlain x62) fun x131 =>
 Ask (rPlain x63) fun x132 =>
 Ret X w69 [b6, b10, b10, b10, b10, b14, b9] [] (.tuple #[(.agg #[x115, x116, x117, x118, x119, x120, x121, x122, x123, x124, x125, x126, x127, x128, x129, x130, x131, x132]), (J 0)]))) ∧ (
 AskO X w21 [] (kb12_0 b0 b1 b2 b3 b4 b5 b6 b7 x9 x1 x2 x10 x11 x12 x13 x19 x20) false (Op.makeSlice 50 (Operand.tmp 54) (Operand.tmp 54)) 50 [(54, x14), (54, x14)] fun x26 w26 =>
 AskNew w26 fun b8 =>
 AskO X w26 [] (kb12_5 b0 b1 b2 b3 b4 b5 b6 b7 b8 x9 x1 x2 x10 x11 x12 x13 x19 x20) false (Op.makeSlice 50 (Operand.tmp 56) (Operand.tmp 56)) 50 [(56, x14), (56, x14)] fun x27 w27 =>
 Ask (rPlain x26) fun x28 =>
 Ask (rPlain x27) fun x29 =>
 Ask (rPlain x28) fun x30 =>
 Ask (rPlain x29) fun x31 =>
 AskW X w27 [b8] (kb12_1 b0 b1 b2 b3 b4 b5 b6 b7 b8 x9 x1 x2 x10 x11 x12 x13 x19 x20 x30 x31) false 55 [x9, (.agg #[x1, x2]), x3, (.agg #[(U 0), (U 0), (U 0), (U 0), (U 0), (U 0), (U 0), (U 0), (U 0), (U 0), (U 0), (U 0), (U 0), (U 0), (U 0), (U 0), x30, x31]), x10, x11, x12] fun x32 w32 =>
 Ask (rExt X.P x32 0) fun _ =>
 Ask (rExt X.P x32 1) fun x34 =>
 AskNew w32 fun b9 =>
 Ask (rAgg 130 x34) fun x35 =>
 AskNew w32 fun b10 =>
 AskF X 56 [x12] fun x36 =>
 Ask (rAgg 4 (.agg #[(U 0), (U 0), (U 0), (U 0)])) fun _ =>
 AskNew w32 fun b11 =>
 Ask (rAgg 4 x36) fun x38 =>
 AskF X 56 [x10] fun x39 =>
 Ask (rAgg 4 (.agg #[(U 0), (U 0), (U 0), (U 0)])) fun _ =>
 AskNew w32 fun b12 =>
 Ask (rAgg 4 x39) fun x41 =>
 AskF X 57 [(U 1)] fun x42 =>
 Ask (rAgg 4 (.agg #[(U 0), (U 0), (U 0), (U 0)])) fun _ =>
 AskNew w32 fun b13 =>
 Ask (rAgg 4 x42) fun x44 =>
 ∃ (I0 : List Value → World → Prop) (μ0 : List Value → World → Nat), (∀ w, KnownV X w32 [b13, b12, b11, b10, b9] (kb12_2 b0 b1 b2 b3 b4 b5 b6 b7 b8 b9 b10 b11 b12 b13 x9 x1 x2 x10 x11 x12 x13 x19 x20 x30 x31 x35 x38 x41 x44) w → I0 [(J 0), (U 0), (U 0), (U 0), (U 0), (U 0), (U 0), (U 0), (U 0), (U 0), (U 0), (U 0), (U 0), (U 0), (U 0), (U 0), (U 0), (.slice none 0 0), (.slice none 0 0), x44] w) ∧ ∀ x45 x46 x47 x48 x49 x50 x51 x52 x53 x54 x55 x56 x57 x58 x59 x60 x61 x62 x63 x64 w65, I0 [x45, x46, x47, x48, x49, x50, x51, x52, x53, x54, x55, x56, x57, x58, x59, x60, x61, x62, x63, x64] w65 →
 Ask (rBin X.P .lss 3 false false x45 x14) fun x66 =>
 (∃ t, x66 = .bool t) ∧ (x66 = .bool true →
 Ask (rSel (aggArr x13) 0 1 false) fun x67 =>
 Ask (rIad X.P 50 x67 x45) fun x68 =>
 Ask (rLoad X w65 [] 49 x68) fun x69 =>
 Ask (rSel (aggArr x35) 128 1 false) fun x70 =>
 Ask (rIad X.P 50 x70 x45) fun x71 =>
 Ask (rLoad X w65 [] 49 x71) fun x72 =>
 AskF X 58 [x69, x72] fun x73 =>
 AskF X 59 [x73, x38] fun x74 =>
 AskO X w65 [] (kb12_3 b0 b1 b2 b3 b4 b5 b6 b7 b8 b9 b10 b11 b12 b13 x9 x1 x2 x10 x11 x12 x13 x19 x20 x30 x31 x35 x46 x47 x48 x49 x50 x51 x52 x53 x54 x55 x56 x57 x58 x59 x60 x61 x62 x63 x38 x41 x64) false (Op.buildSlice 50 1 #[(0, Operand.tmp 95)]) 50 [(95, x74)] fun x75 w75 =>
 AskO X w75 [] (kb12_3 b0 b1 b2 b3 b4 b5 b6 b7 b8 b9 b10 b11 b12 b13 x9 x1 x2 x10 x11 x12 x13 x19 x20 x30 x31 x35 x46 x47 x48 x49 x50 x51 x52 x53 x54 x55 x56 x57 x58 x59 x60 x61 x62 x63 x38 x41 x64) true (appOp (.tmp 82) (.tmp 96) 50) 50 [(82, x62), (96, x75)] fun x76 w76 =>
 Ask (rPlain x76) fun x77 =>
 Ask (rSel (aggArr x13) 1 1 false) fun x78 =>
 Ask (rIad X.P 50 x78 x45) fun x79 =>
 Ask (rLoad X w76 [b10] 49 x79) fun x80 =>
 Ask (rSel (aggArr x35) 129 1 false) fun x81 =>
 Ask (rIad X.P 50 x81 x45) fun x82 =>
 Ask (rLoad X w76 [b10] 49 x82) fun x83 =>
 AskF X 58 [x80, x83] fun x84 =>
 AskF X 59 [x84, x38] fun x85 =>
 AskF X 59 [x85, x64] fun x86 =>
 AskO X w76 [b10] (kb12_4 b0 b1 b2 b3 b4 b5 b6 b7 b8 b9 b10 b11 b12 b13 x9 x1 x2 x10 x11 x12 x13 x19 x20 x30 x31 x35 x46 x47 x48 x49 x50 x51 x52 x53 x54 x55 x56 x57 x58 x59 x60 x61 x77 x63 x38 x41 x64) false (Op.buildSlice 50 1 #[(0, Operand.tmp 115)]) 50 [(115, x86)] fun x87 w87 =>
 AskO X w87 [] (kb12_4 b0 b1 b2 b3 b4 b5 b6 b7 b8 b9 b10 b11 b12 b13 x9 x1 x2 x10 x11 x12 x13 x19 x20 x30 x31 x35 x46 x47 x48 x49 x50 x51 x52 x53 x54 x55 x56 x57 x58 x59 x60 x61 x77 x63 x38 x41 x64) true (appOp (.tmp 100) (.tmp 116) 50) 50 [(100, x63), (116, x87)] fun x88 w88 =>
 Ask (rPlain x88) fun x89 =>
 AskF X 59 [x64, x41] fun x90 =>
 Ask (rAgg 4 x90) fun x91 =>
 Ask (rBin X.P .add 3 false true x45 (J 1)) fun x92 =>
 Again X w88 [b13, b10] [] fun w => I0 [x92, x46, x47, x48, x49, x50, x51, x52, x53, x54, x55, x56, x57, x58, x59, x60, x61, x77, x89, x91] w ∧ μ0 [x92, x46, x47, x48, x49, x50, x51, x52, x53, x54, x55, x56, x57, x58, x59, x60, x61, x77, x89, x91] w < μ0 [x45, x46, x47, x48, x49, x50, x51, x52, x53, x54, x55, x56, x57, x58, x59, x60, x61, x62, x63, x64] w65) ∧ (x66 = .bool false →
 Ask (rPlain x62) fun x67 =>
 Ask (rPlain x63) fun x68 =>
 AskW X w65 [] (kb12_3 b0 b1 b2 b3 b4 b5 b6 b7 b8 b9 b10 b11 b12 b13 x9 x1 x2 x10 x11 x12 x13 x19 x20 x30 x31 x35 x46 x47 x48 x49 x50 x51 x52 x53 x54 x55 x56 x57 x58 x59 x60 x61 x62 x63 x38 x41 x64) false 55 [x9, (.agg #[x1, x2]), x3, (.agg #[(U 0), (U 0), (U 0), (U 0), (U 0), (U 0), (U 0), (U 0), (U 0), (U 0), (U 0), (U 0), (U 0), (U 0), (U 0), (U 0), x67, x68]), x10, x11, x12] fun x69 w69 =>
 Ask (rExt X.P x69 0) fun _ =>
 Ask (rExt X.P x69 1) fun x71 =>
 Ask (rAgg 130 x71) fun x72 =>
 Ask (rSel (aggArr x9) 48 4 true) fun x73 =>
 AskF X 56 [x73] fun x74 =>
 Ask (rAgg 4 (.agg #[(U 0), (U 0), (U 0), (U 0)])) fun _ =>
 AskNew w69 fun b14 =>
 Ask (rAgg 4 x74) fun x76 =>
 Ask (rSel (aggArr x13) 31 4 true) fun x77 =>
 Ask (rSel (aggArr x72) 47 4 true) fun x78 =>
 AskF X 58 [x77, x78] fun x79 =>
 AskF X 59 [x79, x76] fun x80 =>
 Ask (rAgg 4 x80) fun x81 =>
 Ask (rSel (aggArr x81) 0 1 false) fun x82 =>
 Ask (rSel (aggArr x81) 1 1 false) fun x83 =>
 Ask (rSel (aggArr x81) 2 1 false) fun x84 =>
 Ask (rSel (aggArr x81) 3 1 false) fun x85 =>
 Ask (rSel (aggArr x13) 6 4 true) fun x86 =>
 AskF X 59 [(.agg #[x82, x83, x84, x85]), x12] fun x87 =>
 AskF X 58 [x86, x87] fun x88 =>
 Ask (rAgg 4 x88) fun x89 =>
 Ask (rSel (aggArr x89) 0 1 false) fun x90 =>
 Ask (rSel (aggArr x89) 1 1 false) fun x91 =>
 Ask (rSel (aggArr x89) 2 1 false) fun x92 =>
 Ask (rSel (aggArr x89) 3 1 false) fun x93 =>
 Ask (rSel (aggArr x13) 57 4 true) fun x94 =>
 Ask (rSel (aggArr x72) 99 4 true) fun x95 =>
 AskF X 58 [x94, x95] fun x96 =>
 AskF X 59 [x96, x76] fun x97 =>
 Ask (rAgg 4 x97) fun x98 =>
 Ask (rSel (aggArr x98) 0 1 false) fun x99 =>
 Ask (rSel (aggArr x98) 1 1 false) fun x100 =>
 Ask (rSel (aggArr x98) 2 1 false) fun x101 =>
 Ask (rSel (aggArr x98) 3 1 false) fun x102 =>
 Ask (rSel (aggArr x13) 2 4 true) fun x103 =>
 Ask (rSel (aggArr x72) 116 4 true) fun x104 =>
 AskF X 58 [x103, x104] fun x105 =>
 AskF X 59 [(.agg #[x99, x100, x101, x102]), x12] fun x106 =>
 AskF X 59 [x106, x12] fun x107 =>
 AskF X 58 [x105, x107] fun x108 =>
 AskF X 59 [x108, x38] fun x109 =>
 Ask (rAgg 4 x109) fun x110 =>
 Ask (rSel (aggArr x110) 0 1 false) fun x111 =>
 Ask (rSel (aggArr x110) 1 1 false) fun x112 =>
 Ask (rSel (aggArr x110) 2 1 false) fun x113 =>
 Ask (rSel (aggArr x110) 3 1 false) fun x114 =>
 Ask (rPlain x90) fun x115 =>
 Ask (rPlain x91) fun x116 =>
 Ask (rPlain x92) fun x117 =>
 Ask (rPlain x93) fun x118 =>
 Ask (rPlain x82) fun x119 =>
 Ask (rPlain x83) fun x120 =>
 Ask (rPlain x84) fun x121 =>
 Ask (rPlain x85) fun x122 =>
 Ask (rPlain x111) fun x123 =>
 Ask (rPlain x112) fun x124 =>
 Ask (rPlain x113) fun x125 =>
 Ask (rPlain x114) fun x126 =>
 Ask (rPlain x99) fun x127 =>
 Ask (rPlain x100) fun x128 =>
 Ask (rPlain x101) fun x129 =>
 Ask (rPlain x102) fun x130 =>
 Ask (rPlain x62) fun x131 =>
 Ask (rPlain x63) fun x132 =>
 Ret X w69 [b6, b10, b10, b10, b10, b14, b9] [] (.tuple #[(.agg #[x115, x116, x117, x118, x119, x120, x121, x122, x123, x124, x125, x126, x127, x128, x129, x130, x131, x132]), (J 0)]))))) ∧ (
 AskNew w21 fun b8 =>
 AskO X w21 [] (kb12_5 b0 b1 b2 b3 b4 b5 b6 b7 b8 x9 x1 x2 x10 x11 x12 x13 x19 x20) false (Op.makeSlice 50 (Operand.tmp 54) (Operand.tmp 54)) 50 [(54, x14), (54, x14)] fun x26 w26 =>
 AskO X w26 [] (kb12_5 b0 b1 b2 b3 b4 b5 b6 b7 b8 x9 x1 x2 x10 x11 x12 x13 x19 x20) false (Op.makeSlice 50 (Operand.tmp 56) (Operand.tmp 56)) 50 [(56, x14), (56, x14)] fun x27 w27 =>
 Ask (rPlain x26) fun x28 =>
 Ask (rPlain x27) fun x29 =>
 Ask (rPlain x28) fun x30 =>
 Ask (rPlain x29) fun x31 =>
 AskW X w27 [b8] (kb12_1 b0 b1 b2 b3 b4 b5 b6 b7 b8 x9 x1 x2 x10 x11 x12 x13 x19 x20 x30 x31) false 55 [x9, (.agg #[x1, x2]), x3, (.agg #[(U 0), (U 0), (U 0), (U 0), (U 0), (U 0), (U 0), (U 0), (U 0), (U 0), (U 0), (U 0), (U 0), (U 0), (U 0), (U 0), x30, x31]), x10, x11, x12] fun x32 w32 =>
 Ask (rExt X.P x32 0) fun _ =>
 Ask (rExt X.P x32 1) fun x34 =>
 AskNew w32 fun b9 =>
 Ask (rAgg 130 x34) fun x35 =>
 AskNew w32 fun b10 =>
 AskF X 56 [x12] fun x36 =>
 Ask (rAgg 4 (.agg #[(U 0), (U 0), (U 0), (U 0)])) fun _ =>
 AskNew w32 fun b11 =>
 Ask (rAgg 4 x36) fun x38 =>
 AskF X 56 [x10] fun x39 =>
 Ask (rAgg 4 (.agg #[(U 0), (U 0), (U 0), (U 0)])) fun _ =>
 AskNew w32 fun b12 =>
 Ask (rAgg 4 x39) fun x41 =>
 AskF X 57 [(U 1)] fun x42 =>
 Ask (rAgg 4 (.agg #[(U 0), (U 0), (U 0), (U 0)])) fun _ =>
 AskNew w32 fun b13 =>
 Ask (rAgg 4 x42) fun x44 =>
 ∃ (I0 : List Value → World → Prop) (μ0 : List Value → World → Nat), (∀ w, KnownV X w32 [b13, b12, b11, b10, b9] (kb12_2 b0 b1 b2 b3 b4 b5 b6 b7 b8 b9 b10 b11 b12 b13 x9 x1 x2 x10 x11 x12 x13 x19 x20 x30 x31 x35 x38 x41 x44) w → I0 [(J 0), (U 0), (U 0), (U 0), (U 0), (U 0), (U 0), (U 0), (U 0), (U 0), (U 0), (U 0), (U 0), (U 0), (U 0), (U 0), (U 0), (.slice none 0 0), (.slice none 0 0), x44] w) ∧ ∀ x45 x46 x47 x48 x49 x50 x51 x52 x53 x54 x55 x56 x57 x58 x59 x60 x61 x62 x63 x64 w65, I0 [x45, x46, x47, x48, x49, x50, x51, x52, x53, x54, x55, x56, x57, x58, x59, x60, x61, x62, x63, x64] w65 →
 Ask (rBin X.P .lss 3 false false x45 x14) fun x66 =>
 (∃ t, x66 = .bool t) ∧ (x66 = .bool true →
 Ask (rSel (aggArr x13) 0 1 false) fun x67 =>
 Ask (rIad X.P 50 x67 x45) fun x68 =>
 Ask (rLoad X w65 [] 49 x68) fun x69 =>
 Ask (rSel (aggArr x35) 128 1 false) fun x70 =>
 Ask (rIad X.P 50 x70 x45) fun x71 =>
 Ask (rLoad X w65 [] 49 x71) fun x72 =>
 AskF X 58 [x69, x72] fun x73 =>
 AskF X 59 [x73, x38] fun x74 =>
 AskO X w65 [] (kb12_3 b0 b1 b2 b3 b4 b5 b6 b7 b8 b9 b10 b11 b12 b13 x9 x1 x2 x10 x11 x12 x13 x19 x20 x30 x31 x35 x46 x47 x48 x49 x50 x51 x52 x53 x54 x55 x56 x57 x58 x59 x60 x61 x62 x63 x38 x41 x64) false (Op.buildSlice 50 1 #[(0, Operand.tmp 95)]) 50 [(95, x74)] fun x75 w75 =>
 AskO X w75 [] (kb12_3 b0 b1 b2 b3 b4 b5 b6 b7 b8 b9 b10 b11 b12 b13 x9 x1 x2 x10 x11 x12 x13 x19 x20 x30 x31 x35 x46 x47 x48 x49 x50 x51 x52 x53 x54 x55 x56 x57 x58 x59 x60 x61 x62 x63 x38 x41 x64) true (appOp (.tmp 82) (.tmp 96) 50) 50 [(82, x62), (96, x75)] fun x76 w76 =>
 Ask (rPlain x76) fun x77 =>
 Ask (rSel (aggArr x13) 1 1 false) fun x78 =>
 Ask (rIad X.P 50 x78 x45) fun x79 =>
 Ask (rLoad X w76 [b10] 49 x79) fun x80 =>
 Ask (rSel (aggArr x35) 129 1 false) fun x81 =>
 Ask (rIad X.P 50 x81 x45) fun x82 =>
 Ask (rLoad X w76 [b10] 49 x82) fun x83 =>
 AskF X 58 [x80, x83] fun x84 =>
 AskF X 59 [x84, x38] fun x85 =>
 AskF X 59 [x85, x64] fun x86 =>
 AskO X w76 [b10] (kb12_4 b0 b1 b2 b3 b4 b5 b6 b7 b8 b9 b10 b11 b12 b13 x9 x1 x2 x10 x11 x12 x13 x19 x20 x30 x31 x35 x46 x47 x48 x49 x50 x51 x52 x53 x54 x55 x56 x57 x58 x59 x60 x61 x77 x63 x38 x41 x64) false (Op.buildSlice 50 1 #[(0, Operand.tmp 115)]) 50 [(115, x86)] fun x87 w87 =>
 AskO X w87 [] (kb12_4 b0 b1 b2 b3 b4 b5 b6 b7 b8 b9 b10 b11 b12 b13 x9 x1 x2 x10 x11 x12 x13 x19 x20 x30 x31 x35 x46 x47 x48 x49 x50 x51 x52 x53 x54 x55 x56 x57 x58 x59 x60 x61 x77 x63 x38 x41 x64) true (appOp (.tmp 100) (.tmp 116) 50) 50 [(100, x63), (116, x87)] fun x88 w88 =>
 Ask (rPlain x88) fun x89 =>
 AskF X 59 [x64, x41] fun x90 =>
 Ask (rAgg 4 x90) fun x91 =>
 Ask (rBin X.P .add 3 false true x45 (J 1)) fun x92 =>
 Again X w88 [b13, b10] [] fun w => I0 [x92, x46, x47, x48, x49, x50, x51, x52, x53, x54, x55, x56, x57, x58, x59, x60, x61, x77, x89, x91] w ∧ μ0 [x92, x46, x47, x48, x49, x50, x51, x52, x53, x54, x55, x56, x57, x58, x59, x60, x61, x77, x89, x91] w < μ0 [x45, x46, x47, x48, x49, x50, x51, x52, x53, x54, x55, x56, x57, x58, x59, x60, x61, x62, x63, x64] w65) ∧ (x66 = .bool false →
 Ask (rPlain x62) fun x67 =>
 Ask (rPlain x63) fun x68 =>
 AskW X w65 [] (kb12_3 b0 b1 b2 b3 b4 b5 b6 b7 b8 b9 b10 b11 b12 b13 x9 x1 x2 x10 x11 x12 x13 x19 x20 x30 x31 x35 x46 x47 x48 x49 x50 x51 x52 x53 x54 x55 x56 x57 x58 x59 x60 x61 x62 x63 x38 x41 x64) false 55 [x9, (.agg #[x1, x2]), x3, (.agg #[(U 0), (U 0), (U 0), (U 0), (U 0), (U 0), (U 0), (U 0), (U 0), (U 0), (U 0), (U 0), (U 0), (U 0), (U 0), (U 0), x67, x68]), x10, x11, x12] fun x69 w69 =>
 Ask (rExt X.P x69 0) fun _ =>
 Ask (rExt X.P x69 1) fun x71 =>
 Ask (rAgg 130 x71) fun x72 =>
 Ask (rSel (aggArr x9) 48 4 true) fun x73 =>
 AskF X 56 [x73] fun x74 =>
 Ask (rAgg 4 (.agg #[(U 0), (U 0), (U 0), (U 0)])) fun _ =>
 AskNew w69 fun b14 =>
 Ask (rAgg 4 x74) fun x76 =>
 Ask (rSel (aggArr x13) 31 4 true) fun x77 =>
 Ask (rSel (aggArr x72) 47 4 true) fun x78 =>
 AskF X 58 [x77, x78] fun x79 =>
 AskF X 59 [x79, x76] fun x80 =>
 Ask (rAgg 4 x80) fun x81 =>
 Ask (rSel (aggArr x81) 0 1 false) fun x82 =>
 Ask (rSel (aggArr x81) 1 1 false) fun x83 =>
 Ask (rSel (aggArr x81) 2 1 false) fun x84 =>
 Ask (rSel (aggArr x81) 3 1 false) fun x85 =>
 Ask (rSel (aggArr x13) 6 4 true) fun x86 =>
 AskF X 59 [(.agg #[x82, x83, x84, x85]), x12] fun x87 =>
 AskF X 58 [x86, x87] fun x88 =>
 Ask (rAgg 4 x88) fun x89 =>
 Ask (rSel (aggArr x89) 0 1 false) fun x90 =>
 Ask (rSel (aggArr x89) 1 1 false) fun x91 =>
 Ask (rSel (aggArr x89) 2 1 false) fun x92 =>
 Ask (rSel (aggArr x89) 3 1 false) fun x93 =>
 Ask (rSel (aggArr x13) 57 4 true) fun x94 =>
 Ask (rSel (aggArr x72) 99 4 true) fun x95 =>
 AskF X 58 [x94, x95] fun x96 =>
 AskF X 59 [x96, x76] fun x97 =>
 Ask (rAgg 4 x97) fun x98 =>
 Ask (rSel (aggArr x98) 0 1 false) fun x99 =>
 Ask (rSel (aggArr x98) 1 1 false) fun x100 =>
 Ask (rSel (aggArr x98) 2 1 false) fun x101 =>
 Ask (rSel (aggArr x98) 3 1 false) fun x102 =>
 Ask (rSel (aggArr x13) 2 4 true) fun x103 =>
 Ask (rSel (aggArr x72) 116 4 true) fun x104 =>
 AskF X 58 [x103, x104] fun x105 =>
 AskF X 59 [(.agg #[x99, x100, x101, x102]), x12] fun x106 =>
 AskF X 59 [x106, x12] fun x107 =>
 AskF X 58 [x105, x107] fun x108 =>
 AskF X 59 [x108, x38] fun x109 =>
 Ask (rAgg 4 x109) fun x110 =>
 Ask (rSel (aggArr x110) 0 1 false) fun x111 =>
 Ask (rSel (aggArr x110) 1 1 false) fun x112 =>
 Ask (rSel (aggArr x110) 2 1 false) fun x113 =>
 Ask (rSel (aggArr x110) 3 1 false) fun x114 =>
 Ask (rPlain x90) fun x115 =>
 Ask (rPlain x91) fun x116 =>
 Ask (rPlain x92) fun x117 =>
 Ask (rPlain x93) fun x118 =>
 Ask (rPlain x82) fun x119 =>
 Ask (rPlain x83) fun x120 =>
 Ask (rPlain x84) fun x121 =>
 Ask (rPlain x85) fun x122 =>
 Ask (rPlain x111) fun x123 =>
 Ask (rPlain x112) fun x124 =>
 Ask (rPlain x113) fun x125 =>
 Ask (rPlain x114) fun x126 =>
 Ask (rPlain x99) fun x127 =>
 Ask (rPlain x100) fun x128 =>
 Ask (rPlain x101) fun x129 =>
 Ask (rPlain x102) fun x130 =>
 Ask (rPlain x62) fun x131 =>
 Ask (rPlain x63) fun x132 =>
 Ret X w69 [b6, b10, b10, b10, b10, b14, b9] [] (.tuple #[(.agg #[x115, x116, x117, x118, x119, x120, x121, x122, x123, x124, x125, x126, x127, x128, x129, x130, x131, x132]), (J 0)]))))) ∧ (
 ((
 ((
 AskO X w21 [] (kb12_0 b0 b1 b2 b3 b4 b5 b6 b7 x9 x1 x2 x10 x11 x12 x13 x19 x20) false (Op.makeSlice 50 (Operand.tmp 56) (Operand.tmp 56)) 50 [(56, x14), (56, x14)] fun x26 w26 =>
 AskO X w26 [] (kb12_0 b0 b1 b2 b3 b4 b5 b6 b7 x9 x1 x2 x10 x11 x12 x13 x19 x20) false (Op.makeSlice 50 (Operand.tmp 54) (Operand.tmp 54)) 50 [(54, x14), (54, x14)] fun x27 w27 =>
 Ask (rPlain x27) fun x28 =>
 Ask (rPlain x26) fun x29 =>
 AskNew w27 fun b8 =>
 Ask (rPlain x28) fun x30 =>
 Ask (rPlain x29) fun x31 =>
 AskW X w27 [b8] (kb12_1 b0 b1 b2 b3 b4 b5 b6 b7 b8 x9 x1 x2 x10 x11 x12 x13 x19 x20 x30 x31) false 55 [x9, (.agg #[x1, x2]), x3, (.agg #[(U 0), (U 0), (U 0), (U 0), (U 0), (U 0), (U 0), (U 0), (U 0), (U 0), (U 0), (U 0), (U 0), (U 0), (U 0), (U 0), x30, x31]), x10, x11, x12] fun x32 w32 =>
 Ask (rExt X.P x32 0) fun _ =>
 Ask (rExt X.P x32 1) fun x34 =>
 AskNew w32 fun b9 =>
 Ask (rAgg 130 x34) fun x35 =>
 AskNew w32 fun b10 =>
 AskF X 56 [x12] fun x36 =>
 Ask (rAgg 4 (.agg #[(U 0), (U 0), (U 0), (U 0)])) fun _ =>
 AskNew w32 fun b11 =>
 Ask (rAgg 4 x36) fun x38 =>
 AskF X 56 [x10] fun x39 =>
 Ask (rAgg 4 (.agg #[(U 0), (U 0), (U 0), (U 0)])) fun _ =>
 AskNew w32 fun b12 =>
 Ask (rAgg 4 x39) fun x41 =>
 AskF X 57 [(U 1)] fun x42 =>
 Ask (rAgg 4 (.agg #[(U 0), (U 0), (U 0), (U 0)])) fun _ =>
 AskNew w32 fun b13 =>
 Ask (rAgg 4 x42) fun x44 =>
 ∃ (I0 : List Value → World → Prop) (μ0 : List Value → World → Nat), (∀ w, KnownV X w32 [b13, b12, b11, b10, b9] (kb12_2 b0 b1 b2 b3 b4 b5 b6 b7 b8 b9 b10 b11 b12 b13 x9 x1 x2 x10 x11 x12 x13 x19 x20 x30 x31 x35 x38 x41 x44) w → I0 [(J 0), (U 0), (U 0), (U 0), (U 0), (U 0), (U 0), (U 0), (U 0), (U 0), (U 0), (U 0), (U 0), (U 0), (U 0), (U 0), (U 0), (.slice none 0 0), (.slice none 0 0), x44] w) ∧ ∀ x45 x46 x47 x48 x49 x50 x51 x52 x53 x54 x55 x56 x57 x58 x59 x60 x61 x62 x63 x64 w65, I0 [x45, x46, x47, x48, x49, x50, x51, x52, x53, x54, x55, x56, x57, x58, x59, x60, x61, x62, x63, x64] w65 →
 Ask (rBin X.P .lss 3 false false x45 x14) fun x66 =>
 (∃ t, x66 = .bool t) ∧ (x66 = .bool true →
 Ask (rSel (aggArr x13) 0 1 false) fun x67 =>
 Ask (rIad X.P 50 x67 x45) fun x68 =>
 Ask (rLoad X w65 [] 49 x68) fun x69 =>
 Ask (rSel (aggArr x35) 128 1 false) fun x70 =>
 Ask (rIad X.P 50 x70 x45) fun x71 =>
 Ask (rLoad X w65 [] 49 x71) fun x72 =>
 AskF X 58 [x69, x72] fun x73 =>
 AskF X 59 [x73, x38] fun x74 =>
 AskO X w65 [] (kb12_3 b0 b1 b2 b3 b4 b5 b6 b7 b8 b9 b10 b11 b12 b13 x9 x1 x2 x10 x11 x12 x13 x19 x20 x30 x31 x35 x46 x47 x48 x49 x50 x51 x52 x53 x54 x55 x56 x57 x58 x59 x60 x61 x62 x63 x38 x41 x64) false (Op.buildSlice 50 1 #[(0, Operand.tmp 95)]) 50 [(95, x74)] fun x75 w75 =>
 AskO X w75 [] (kb12_3 b0 b1 b2 b3 b4 b5 b6 b7 b8 b9 b10 b11 b12 b13 x9 x1 x2 x10 x11 x12 x13 x19 x20 x30 x31 x35 x46 x47 x48 x49 x50 x51 x52 x53 x54 x55 x56 x57 x58 x59 x60 x61 x62 x63 x38 x41 x64) true (appOp (.tmp 82) (.tmp 96) 50) 50 [(82, x62), (96, x75)] fun x76 w76 =>
 Ask (rPlain x76) fun x77 =>
 Ask (rSel (aggArr x13) 1 1 false) fun x78 =>
 Ask (rIad X.P 50 x78 x45) fun x79 =>
 Ask (rLoad X w76 [b10] 49 x79) fun x80 =>
 Ask (rSel (aggArr x35) 129 1 false) fun x81 =>
 Ask (rIad X.P 50 x81 x45) fun x82 =>
 Ask (rLoad X w76 [b10] 49 x82) fun x83 =>
 AskF X 58 [x80, x83] fun x84 =>
 AskF X 59 [x84, x38] fun x85 =>
 AskF X 59 [x85, x64] fun x86 =>
 AskO X w76 [b10] (kb12_4 b0 b1 b2 b3 b4 b5 b6 b7 b8 b9 b10 b11 b12 b13 x9 x1 x2 x10 x11 x12 x13 x19 x20 x30 x31 x35 x46 x47 x48 x49 x50 x51 x52 x53 x54 x55 x56 x57 x58 x59 x60 x61 x77 x63 x38 x41 x64) false (Op.buildSlice 50 1 #[(0, Operand.tmp 115)]) 50 [(115, x86)] fun x87 w87 =>
 AskO X w87 [] (kb12_4 b0 b1 b2 b3 b4 b5 b6 b7 b8 b9 b10 b11 b12 b13 x9 x1 x2 x10 x11 x12 x13 x19 x20 x30 x31 x35 x46 x47 x48 x49 x50 x51 x52 x53 x54 x55 x56 x57 x58 x59 x60 x61 x77 x63 x38 x41 x64) true (appOp (.tmp 100) (.tmp 116) 50) 50 [(100, x63), (116, x87)] fun x88 w88 =>
 Ask (rPlain x88) fun x89 =>
 AskF X 59 [x64, x41] fun x90 =>
 Ask (rAgg 4 x90) fun x91 =>
 Ask (rBin X.P .add 3 false true x45 (J 1)) fun x92 =>
 Again X w88 [b13, b10] [] fun w => I0 [x92, x46, x47, x48, x49, x50, x51, x52, x53, x54, x55, x56, x57, x58, x59, x60, x61, x77, x89, x91] w ∧ μ0 [x92, x46, x47, x48, x49, x50, x51, x52, x53, x54, x55, x56, x57, x58, x59, x60, x61, x77, x89, x91] w < μ0 [x45, x46, x47, x48, x49, x50, x51, x52, x53, x54, x55, x56, x57, x58, x59, x60, x61, x62, x63, x64] w65) ∧ (x66 = .bool false →
 Ask (rPlain x62) fun x67 =>
 Ask (rPlain x63) fun x68 =>
 AskW X w65 [] (kb12_3 b0 b1 b2 b3 b4 b5 b6 b7 b8 b9 b10 b11 b12 b13 x9 x1 x2 x10 x11 x12 x13 x19 x20 x30 x31 x35 x46 x47 x48 x49 x50 x51 x52 x53 x54 x55 x56 x57 x58 x59 x60 x61 x62 x63 x38 x41 x64) false 55 [x9, (.agg #[x1, x2]), x3, (.agg #[(U 0), (U 0), (U 0), (U 0), (U 0), (U 0), (U 0), (U 0), (U 0), (U 0), (U 0), (U 0), (U 0), (U 0), (U 0), (U 0), x67, x68]), x10, x11, x12] fun x69 w69 =>
 Ask (rExt X.P x69 0) fun _ =>
 Ask (rExt X.P x69 1) fun x71 =>
 Ask (rAgg 130 x71) fun x72 =>
 Ask (rSel (aggArr x9) 48 4 true) fun x73 =>
 AskF X 56 [x73] fun x74 =>
 Ask (rAgg 4 (.agg #[(U 0), (U 0), (U 0), (U 0)])) fun _ =>
 AskNew w69 fun b14 =>
 Ask (rAgg 4 x74) fun x76 =>
 Ask (rSel (aggArr x13) 31 4 true) fun x77 =>
 Ask (rSel (aggArr x72) 47 4 true) fun x78 =>
 AskF X 58 [x77, x78] fun x79 =>
 AskF X 59 [x79, x76] fun x80 =>
 Ask (rAgg 4 x80) fun x81 =>
 Ask (rSel (aggArr x81) 0 1 false) fun x82 =>
 Ask (rSel (aggArr x81) 1 1 false) fun x83 =>
 Ask (rSel (aggArr x81) 2 1 false) fun x84 =>
 Ask (rSel (aggArr x81) 3 1 false) fun x85 =>
 Ask (rSel (aggArr x13) 6 4 true) fun x86 =>
 AskF X 59 [(.agg #[x82, x83, x84, x85]), x12] fun x87 =>
 AskF X 58 [x86, x87] fun x88 =>
 Ask (rAgg 4 x88) fun x89 =>
 Ask (rSel (aggArr x89) 0 1 false) fun x90 =>
 Ask (rSel (aggArr x89) 1 1 false) fun x91 =>
 Ask (rSel (aggArr x89) 2 1 false) fun x92 =>
 Ask (rSel (aggArr x89) 3 1 false) fun x93 =>
 Ask (rSel (aggArr x13) 57 4 true) fun x94 =>
 Ask (rSel (aggArr x72) 99 4 true) fun x95 =>
 AskF X 58 [x94, x95] fun x96 =>
 AskF X 59 [x96, x76] fun x97 =>
 Ask (rAgg 4 x97) fun x98 =>
 Ask (rSel (aggArr x98) 0 1 false) fun x99 =>
 Ask (rSel (aggArr x98) 1 1 false) fun x100 =>
 Ask (rSel (aggArr x98) 2 1 false) fun x101 =>
 Ask (rSel (aggArr x98) 3 1 false) fun x102 =>
 Ask (rSel (aggArr x13) 2 4 true) fun x103 =>
 Ask (rSel (aggArr x72) 116 4 true) fun x104 =>
 AskF X 58 [x103, x104] fun x105 =>
 AskF X 59 [(.agg #[x99, x100, x101, x102]), x12] fun x106 =>
 AskF X 59 [x106, x12] fun x107 =>
 AskF X 58 [x105, x107] fun x108 =>
 AskF X 59 [x108, x38] fun x109 =>
 Ask (rAgg 4 x109) fun x110 =>
 Ask (rSel (aggArr x110) 0 1 false) fun x111 =>
 Ask (rSel (aggArr x110) 1 1 false) fun x112 =>
 Ask (rSel (aggArr x110) 2 1 false) fun x113 =>
 Ask (rSel (aggArr x110) 3 1 false) fun x114 =>
 Ask (rPlain x90) fun x115 =>
 Ask (rPlain x91) fun x116 =>
 Ask (rPlain x92) fun x117 =>
 Ask (rPlain x93) fun x118 =>
 Ask (rPlain x82) fun x119 =>
 Ask (rPlain x83) fun x120 =>
 Ask (rPlain x84) fun x121 =>
 Ask (rPlain x85) fun x122 =>
 Ask (rPlain x111) fun x123 =>
 Ask (rPlain x112) fun x124 =>
 Ask (rPlain x113) fun x125 =>
 Ask (rPlain x114) fun x126 =>
 Ask (rPlain x99) fun x127 =>
 Ask (rPlain x100) fun x128 =>
 Ask (rPlain x101) fun x129 =>
 Ask (rPlain x102) fun x130 =>
 Ask (rPlain x62) fun x131 =>
 Ask (rPlain x63) fun x132 =>
 Ret X w69 [b6, b10, b10, b10, b10, b14, b9] [] (.tuple #[(.agg #[x115, x116, x117, x118, x119, x120, x121, x122, x123, x124, x125, x126, x127, x128, x129, x130, x131, x132]), (J 0)]))) ∧ (
 AskO X w21 [] (kb12_0 b0 b1 b2 b3 b4 b5 b6 b7 x9 x1 x2 x10 x11 x12 x13 x19 x20) false (Op.makeSlice 50 (Operand.tmp 56) (Operand.tmp 56)) 50 [(56, x14), (56, x14)] fun x26 w26 =>
 AskNew w26 fun b8 =>
 AskO X w26 [] (kb12_5 b0 b1 b2 b3 b4 b5 b6 b7 b8 x9 x1 x2 x10 x11 x12 x13 x19 x20) false (Op.makeSlice 50 (Operand.tmp 54) (Operand.tmp 54)) 50 [(54, x14), (54, x14)] fun x27 w27 =>
 Ask (rPlain x27) fun x28 =>
 Ask (rPlain x26) fun x29 =>
 Ask (rPlain x28) fun x30 =>
 Ask (rPlain x29) fun x31 =>
 AskW X w27 [b8] (kb12_1 b0 b1 b2 b3 b4 b5 b6 b7 b8 x9 x1 x2 x10 x11 x12 x13 x19 x20 x30 x31) false 55 [x9, (.agg #[x1, x2]), x3, (.agg #[(U 0), (U 0), (U 0), (U 0), (U 0), (U 0), (U 0), (U 0), (U 0), (U 0), (U 0), (U 0), (U 0), (U 0), (U 0), (U 0), x30, x31]), x10, x11, x12] fun x32 w32 =>
 Ask (rExt X.P x32 0) fun _ =>
 Ask (rExt X.P x32 1) fun x34 =>
 AskNew w32 fun b9 =>
 Ask (rAgg 130 x34) fun x35 =>
 AskNew w32 fun b10 =>
 AskF X 56 [x12] fun x36 =>
 Ask (rAgg 4 (.agg #[(U 0), (U 0), (U 0), (U 0)])) fun _ =>
 AskNew w32 fun b11 =>
 Ask (rAgg 4 x36) fun x38 =>
 AskF X 56 [x10] fun x39 =>
 Ask (rAgg 4 (.agg #[(U 0), (U 0), (U 0), (U 0)])) fun _ =>
 AskNew w32 fun b12 =>
 Ask (rAgg 4 x39) fun x41 =>
 AskF X 57 [(U 1)] fun x42 =>
 Ask (rAgg 4 (.agg #[(U 0), (U 0), (U 0), (U 0)])) fun _ =>
 AskNew w32 fun b13 =>
 Ask (rAgg 4 x42) fun x44 =>
 ∃ (I0 : List Value → World → Prop) (μ0 : List Value → World → Nat), (∀ w, KnownV X w32 [b13, b12, b11, b10, b9] (kb12_2 b0 b1 b2 b3 b4 b5 b6 b7 b8 b9 b10 b11 b12 b13 x9 x1 x2 x10 x11 x12 x13 x19 x20 x30 x31 x35 x38 x41 x44) w → I0 [(J 0), (U 0), (U 0), (U 0), (U 0), (U 0), (U 0), (U 0), (U 0), (U 0), (U 0), (U 0), (U 0), (U 0), (U 0), (U 0), (U 0), (.slice none 0 0), (.slice none 0 0), x44] w) ∧ ∀ x45 x46 x47 x48 x49 x50 x51 x52 x53 x54 x55 x56 x57 x58 x59 x60 x61 x62 x63 x64 w65, I0 [x45, x46, x47, x48, x49, x50, x51, x52, x53, x54, x55, x56, x57, x58, x59, x60, x61, x62, x63, x64] w65 →
 Ask (rBin X.P .lss 3 false false x45 x14) fun x66 =>
 (∃ t, x66 = .bool t) ∧ (x66 = .bool true →
 Ask (rSel (aggArr x13) 0 1 false) fun x67 =>
 Ask (rIad X.P 50 x67 x45) fun x68 =>
 Ask (rLoad X w65 [] 49 x68) fun x69 =>
 Ask (rSel (aggArr x35) 128 1 false) fun x70 =>
 Ask (rIad X.P 50 x70 x45) fun x71 =>
 Ask (rLoad X w65 [] 49 x71) fun x72 =>
 AskF X 58 [x69, x72] fun x73 =>
 AskF X 59 [x73, x38] fun x74 =>
 AskO X w65 [] (kb12_3 b0 b1 b2 b3 b4 b5 b6 b7 b8 b9 b10 b11 b12 b13 x9 x1 x2 x10 x11 x12 x13 x19 x20 x30 x31 x35 x46 x47 x48 x49 x50 x51 x52 x53 x54 x55 x56 x57 x58 x59 x60 x61 x62 x63 x38 x41 x64) false (Op.buildSlice 50 1 #[(0, Operand.tmp 95)]) 50 [(95, x74)] fun x75 w75 =>
 AskO X w75 [] (kb12_3 b0 b1 b2 b3 b4 b5 b6 b7 b8 b9 b10 b11 b12 b13 x9 x1 x2 x10 x11 x12 x13 x19 x20 x30 x31 x35 x46 x47 x48 x49 x50 x51 x52 x53 x54 x55 x56 x57 x58 x59 x60 x61 x62 x63 x38 x41 x64) true (appOp (.tmp 82) (.tmp 96) 50) 50 [(82, x62), (96, x75)] fun x76 w76 =>
 Ask (rPlain x76) fun x77 =>
 Ask (rSel (aggArr x13) 1 1 false) fun x78 =>
 Ask (rIad X.P 50 x78 x45) fun x79 =>
 Ask (rLoad X w76 [b10] 49 x79) fun x80 =>
 Ask (rSel (aggArr x35) 129 1 false) fun x81 =>
 Ask (rIad X.P 50 x81 x45) fun x82 =>
 Ask (rLoad X w76 [b10] 49 x82) fun x83 =>
 AskF X 58 [x80, x83] fun x84 =>
 AskF X 59 [x84, x38] fun x85 =>
 AskF X 59 [x85, x64] fun x86 =>
 AskO X w76 [b10] (kb12_4 b0 b1 b2 b3 b4 b5 b6 b7 b8 b9 b10 b11 b12 b13 x9 x1 x2 x10 x11 x12 x13 x19 x20 x30 x31 x35 x46 x47 x48 x49 x50 x51 x52 x53 x54 x55 x56 x57 x58 x59 x60 x61 x77 x63 x38 x41 x64) false (Op.buildSlice 50 1 #[(0, Operand.tmp 115)]) 50 [(115, x86)] fun x87 w87 =>
 AskO X w87 [] (kb12_4 b0 b1 b2 b3 b4 b5 b6 b7 b8 b9 b10 b11 b12 b13 x9 x1 x2 x10 x11 x12 x13 x19 x20 x30 x31 x35 x46 x47 x48 x49 x50 x51 x52 x53 x54 x55 x56 x57 x58 x59 x60 x61 x77 x63 x38 x41 x64) true (appOp (.tmp 100) (.tmp 116) 50) 50 [(100, x63), (116, x87)] fun x88 w88 =>
 Ask (rPlain x88) fun x89 =>
 AskF X 59 [x64, x41] fun x90 =>
 Ask (rAgg 4 x90) fun x91 =>
 Ask (rBin X.P .add 3 false true x45 (J 1)) fun x92 =>
 Again X w88 [b13, b10] [] fun w => I0 [x92, x46, x47, x48, x49, x50, x51, x52, x53, x54, x55, x56, x57, x58, x59, x60, x61, x77, x89, x91] w ∧ μ0 [x92, x46, x47, x48, x49, x50, x51, x52, x53, x54, x55, x56, x57, x58, x59, x60, x61, x77, x89, x91] w < μ0 [x45, x46, x47, x48, x49, x50, x51, x52, x53, x54, x55, x56, x57, x58, x59, x60, x61, x62, x63, x64] w65) ∧ (x66 = .bool false →
 Ask (rPlain x62) fun x67 =>
 Ask (rPlain x63) fun x68 =>
 AskW X w65 [] (kb12_3 b0 b1 b2 b3 b4 b5 b6 b7 b8 b9 b10 b11 b12 b13 x9 x1 x2 x10 x11 x12 x13 x19 x20 x30 x31 x35 x46 x47 x48 x49 x50 x51 x52 x53 x54 x55 x56 x57 x58 x59 x60 x61 x62 x63 x38 x41 x64) false 55 [x9, (.agg #[x1, x2]), x3, (.agg #[(U 0), (U 0), (U 0), (U 0), (U 0), (U 0), (U 0), (U 0), (U 0), (U 0), (U 0), (U 0), (U 0), (U 0), (U 0), (U 0), x67, x68]), x10, x11, x12] fun x69 w69 =>
 Ask (rExt X.P x69 0) fun _ =>
 Ask (rExt X.P x69 1) fun x71 =>
 Ask (rAgg 130 x71) fun x72 =>
 Ask (rSel (aggArr x9) 48 4 true) fun x73 =>
 AskF X 56 [x73] fun x74 =>
 Ask (rAgg 4 (.agg #[(U 0), (U 0), (U 0), (U 0)])) fun _ =>
 AskNew w69 fun b14 =>
 Ask (rAgg 4 x74) fun x76 =>
 Ask (rSel (aggArr x13) 31 4 true) fun x77 =>
 Ask (rSel (aggArr x72) 47 4 true) fun x78 =>
 AskF X 58 [x77, x78] fun x79 =>
 AskF X 59 [x79, x76] fun x80 =>
 Ask (rAgg 4 x80) fun x81 =>
 Ask (rSel (aggArr x81) 0 1 false) fun x82 =>
 Ask (rSel (aggArr x81) 1 1 false) fun x83 =>
 Ask (rSel (aggArr x81) 2 1 false) fun x84 =>
 Ask (rSel (aggArr x81) 3 1 false) fun x85 =>
 Ask (rSel (aggArr x13) 6 4 true) fun x86 =>
 AskF X 59 [(.agg #[x82, x83, x84, x85]), x12] fun x87 =>
 AskF X 58 [x86, x87] fun x88 =>
 Ask (rAgg 4 x88) fun x89 =>
 Ask (rSel (aggArr x89) 0 1 false) fun x90 =>
 Ask (rSel (aggArr x89) 1 1 false) fun x91 =>
 Ask (rSel (aggArr x89) 2 1 false) fun x92 =>
 Ask (rSel (aggArr x89) 3 1 false) fun x93 =>
 Ask (rSel (aggArr x13) 57 4 true) fun x94 =>
 Ask (rSel (aggArr x72) 99 4 true) fun x95 =>
 AskF X 58 [x94, x95] fun x96 =>
 AskF X 59 [x96, x76] fun x97 =>
 Ask (rAgg 4 x97) fun x98 =>
 Ask (rSel (aggArr x98) 0 1 false) fun x99 =>
 Ask (rSel (aggArr x98) 1 1 false) fun x100 =>
 Ask (rSel (aggArr x98) 2 1 false) fun x101 =>
 Ask (rSel (aggArr x98) 3 1 false) fun x102 =>
 Ask (rSel (aggArr x13) 2 4 true) fun x103 =>
 Ask (rSel (aggArr x72) 116 4 true) fun x104 =>
 AskF X 58 [x103, x104] fun x105 =>
 AskF X 59 [(.agg #[x99, x100, x101, x102]), x12] fun x106 =>
 AskF X 59 [x106, x12] fun x107 =>
 AskF X 58 [x105, x107] fun x108 =>
 AskF X 59 [x108, x38] fun x109 =>
 Ask (rAgg 4 x109) fun x110 =>
 Ask (rSel (aggArr x110) 0 1 false) fun x111 =>
 Ask (rSel (aggArr x110) 1 1 false) fun x112 =>
 Ask (rSel (aggArr x110) 2 1 false) fun x113 =>
 Ask (rSel (aggArr x110) 3 1 false) fun x114 =>
 Ask (rPlain x90) fun x115 =>
 Ask (rPlain x91) fun x116 =>
 Ask (rPlain x92) fun x117 =>
 Ask (rPlain x93) fun x118 =>
 Ask (rPlain x82) fun x119 =>
 Ask (rPlain x83) fun x120 =>
 Ask (rPlain x84) fun x121 =>
 Ask (rPlain x85) fun x122 =>
 Ask (rPlain x111) fun x123 =>
 Ask (rPlain x112) fun x124 =>
 Ask (rPlain x113) fun x125 =>
 Ask (rPlain x114) fun x126 =>
 Ask (rPlain x99) fun x127 =>
 Ask (rPlain x100) fun x128 =>
 Ask (rPlain x101) fun x129 =>
 Ask (rPlain x102) fun x130 =>
 Ask (rPlain x62) fun x131 =>
 Ask (rPlain x63) fun x132 =>
 Ret X w69 [b6, b10, b10, b10, b10, b14, b9] [] (.tuple #[(.agg #[x115, x116, x117, x118, x119, x120, x121, x122, x123, x124, x125, x126, x127, x128, x129, x130, x131, x132]), (J 0)]))))) ∧ (
 AskNew w21 fun b8 =>
 AskO X w21 [] (kb12_5 b0 b1 b2 b3 b4 b5 b6 b7 b8 x9 x1 x2 x10 x11 x12 x13 x19 x20) false (Op.makeSlice 50 (Operand.tmp 56) (Operand.tmp 56)) 50 [(56, x14), (56, x14)] fun x26 w26 =>
 AskO X w26 [] (kb12_5 b0 b1 b2 b3 b4 b5 b6 b7 b8 x9 x1 x2 x10 x11 x12 x13 x19 x20) false (Op.makeSlice 50 (Operand.tmp 54) (Operand.tmp 54)) 50 [(54, x14), (54, x14)] fun x27 w27 =>
 Ask (rPlain x27) fun x28 =>
 Ask (rPlain x26) fun x29 =>
 Ask (rPlain x28) fun x30 =>
 Ask (rPlain x29) fun x31 =>
 AskW X w27 [b8] (kb12_1 b0 b1 b2 b3 b4 b5 b6 b7 b8 x9 x1 x2 x10 x11 x12 x13 x19 x20 x30 x31) false 55 [x9, (.agg #[x1, x2]), x3, (.agg #[(U 0), (U 0), (U 0), (U 0), (U 0), (U 0), (U 0), (U 0), (U 0), (U 0), (U 0), (U 0), (U 0), (U 0), (U 0), (U 0), x30, x31]), x10, x11, x12] fun x32 w32 =>
 Ask (rExt X.P x32 0) fun _ =>
 Ask (rExt X.P x32 1) fun x34 =>
 AskNew w32 fun b9 =>
 Ask (rAgg 130 x34) fun x35 =>
 AskNew w32 fun b10 =>
 AskF X 56 [x12] fun x36 =>
 Ask (rAgg 4 (.agg #[(U 0), (U 0), (U 0), (U 0)])) fun _ =>
 AskNew w32 fun b11 =>
 Ask (rAgg 4 x36) fun x38 =>
 AskF X 56 [x10] fun x39 =>
 Ask (rAgg 4 (.agg #[(U 0), (U 0), (U 0), (U 0)])) fun _ =>
 AskNew w32 fun b12 =>
 Ask (rAgg 4 x39) fun x41 =>
 AskF X 57 [(U 1)] fun x42 =>
 Ask (rAgg 4 (.agg #[(U 0), (U 0), (U 0), (U 0)])) fun _ =>
 AskNew w32 fun b13 =>
 Ask (rAgg 4 x42) fun x44 =>
 ∃ (I0 : List Value → World → Prop) (μ0 : List Value → World → Nat), (∀ w, KnownV X w32 [b13, b12, b11, b10, b9] (kb12_2 b0 b1 b2 b3 b4 b5 b6 b7 b8 b9 b10 b11 b12 b13 x9 x1 x2 x10 x11 x12 x13 x19 x20 x30 x31 x35 x38 x41 x44) w → I0 [(J 0), (U 0), (U 0), (U 0), (U 0), (U 0), (U 0), (U 0), (U 0), (U 0), (U 0), (U 0), (U 0), (U 0), (U 0), (U 0), (U 0), (.slice none 0 0), (.slice none 0 0), x44] w) ∧ ∀ x45 x46 x47 x48 x49 x50 x51 x52 x53 x54 x55 x56 x57 x58 x59 x60 x61 x62 x63 x64 w65, I0 [x45, x46, x47, x48, x49, x50, x51, x52, x53, x54, x55, x56, x57, x58, x59, x60, x61, x62, x63, x64] w65 →
 Ask (rBin X.P .lss 3 false false x45 x14) fun x66 =>
 (∃ t, x66 = .bool t) ∧ (x66 = .bool true →
 Ask (rSel (aggArr x13) 0 1 false) fun x67 =>
 Ask (rIad X.P 50 x67 x45) fun x68 =>
 Ask (rLoad X w65 [] 49 x68) fun x69 =>
 Ask (rSel (aggArr x35) 128 1 false) fun x70 =>
 Ask (rIad X.P 50 x70 x45) fun x71 =>
 Ask (rLoad X w65 [] 49 x71) fun x72 =>
 AskF X 58 [x69, x72] fun x73 =>
 AskF X 59 [x73, x38] fun x74 =>
 AskO X w65 [] (kb12_3 b0 b1 b2 b3 b4 b5 b6 b7 b8 b9 b10 b11 b12 b13 x9 x1 x2 x10 x11 x12 x13 x19 x20 x30 x31 x35 x46 x47 x48 x49 x50 x51 x52 x53 x54 x55 x56 x57 x58 x59 x60 x61 x62 x63 x38 x41 x64) false (Op.buildSlice 50 1 #[(0, Operand.tmp 95)]) 50 [(95, x74)] fun x75 w75 =>
 AskO X w75 [] (kb12_3 b0 b1 b2 b3 b4 b5 b6 b7 b8 b9 b10 b11 b12 b13 x9 x1 x2 x10 x11 x12 x13 x19 x20 x30 x31 x35 x46 x47 x48 x49 x50 x51 x52 x53 x54 x55 x56 x57 x58 x59 x60 x61 x62 x63 x38 x41 x64) true (appOp (.tmp 82) (.tmp 96) 50) 50 [(82, x62), (96, x75)] fun x76 w76 =>
 Ask (rPlain x76) fun x77 =>
 Ask (rSel (aggArr x13) 1 1 false) fun x78 =>
 Ask (rIad X.P 50 x78 x45) fun x79 =>
 Ask (rLoad X w76 [b10] 49 x79) fun x80 =>
 Ask (rSel (aggArr x35) 129 1 false) fun x81 =>
 Ask (rIad X.P 50 x81 x45) fun x82 =>
 Ask (rLoad X w76 [b10] 49 x82) fun x83 =>
 AskF X 58 [x80, x83] fun x84 =>
 AskF X 59 [x84, x38] fun x85 =>
 AskF X 59 [x85, x64] fun x86 =>
 AskO X w76 [b10] (kb12_4 b0 b1 b2 b3 b4 b5 b6 b7 b8 b9 b10 b11 b12 b13 x9 x1 x2 x10 x11 x12 x13 x19 x20 x30 x31 x35 x46 x47 x48 x49 x50 x51 x52 x53 x54 x55 x56 x57 x58 x59 x60 x61 x77 x63 x38 x41 x64) false (Op.buildSlice 50 1 #[(0, Operand.tmp 115)]) 50 [(115, x86)] fun x87 w87 =>
 AskO X w87 [] (kb12_4 b0 b1 b2 b3 b4 b5 b6 b7 b8 b9 b10 b11 b12 b13 x9 x1 x2 x10 x11 x12 x13 x19 x20 x30 x31 x35 x46 x47 x48 x49 x50 x51 x52 x53 x54 x55 x56 x57 x58 x59 x60 x61 x77 x63 x38 x41 x64) true (appOp (.tmp 100) (.tmp 116) 50) 50 [(100, x63), (116, x87)] fun x88 w88 =>
 Ask (rPlain x88) fun x89 =>
 AskF X 59 [x64, x41] fun x90 =>
 Ask (rAgg 4 x90) fun x91 =>
 Ask (rBin X.P .add 3 false true x45 (J 1)) fun x92 =>
 Again X w88 [b13, b10] [] fun w => I0 [x92, x46, x47, x48, x49, x50, x51, x52, x53, x54, x55, x56, x57, x58, x59, x60, x61, x77, x89, x91] w ∧ μ0 [x92, x46, x47, x48, x49, x50, x51, x52, x53, x54, x55, x56, x57, x58, x59, x60, x61, x77, x89, x91] w < μ0 [x45, x46, x47, x48, x49, x50, x51, x52, x53, x54, x55, x56, x57, x58, x59, x60, x61, x62, x63, x64] w65) ∧ (x66 = .bool false →
 Ask (rPlain x62) fun x67 =>
 Ask (rPlain x63) fun x68 =>
 AskW X w65 [] (kb12_3 b0 b1 b2 b3 b4 b5 b6 b7 b8 b9 b10 b11 b12 b13 x9 x1 x2 x10 x11 x12 x13 x19 x20 x30 x31 x35 x46 x47 x48 x49 x50 x51 x52 x53 x54 x55 x56 x57 x58 x59 x60 x61 x62 x63 x38 x41 x64) false 55 [x9, (.agg #[x1, x2]), x3, (.agg #[(U 0), (U 0), (U 0), (U 0), (U 0), (U 0), (U 0), (U 0), (U 0), (U 0), (U 0), (U 0), (U 0), (U 0), (U 0), (U 0), x67, x68]), x10, x11, x12] fun x69 w69 =>
 Ask (rExt X.P x69 0) fun _ =>
 Ask (rExt X.P x69 1) fun x71 =>
 Ask (rAgg 130 x71) fun x72 =>
 Ask (rSel (aggArr x9) 48 4 true) fun x73 =>
 AskF X 56 [x73] fun x74 =>
 Ask (rAgg 4 (.agg #[(U 0), (U 0), (U 0), (U 0)])) fun _ =>
 AskNew w69 fun b14 =>
 Ask (rAgg 4 x74) fun x76 =>
 Ask (rSel (aggArr x13) 31 4 true) fun x77 =>
 Ask (rSel (aggArr x72) 47 4 true) fun x78 =>
 AskF X 58 [x77, x78] fun x79 =>
 AskF X 59 [x79, x76] fun x80 =>
 Ask (rAgg 4 x80) fun x81 =>
 Ask (rSel (aggArr x81) 0 1 false) fun x82 =>
 Ask (rSel (aggArr x81) 1 1 false) fun x83 =>
 Ask (rSel (aggArr x81) 2 1 false) fun x84 =>
 Ask (rSel (aggArr x81) 3 1 false) fun x85 =>
 Ask (rSel (aggArr x13) 6 4 true) fun x86 =>
 AskF X 59 [(.agg #[x82, x83, x84, x85]), x12] fun x87 =>
 AskF X 58 [x86, x87] fun x88 =>
 Ask (rAgg 4 x88) fun x89 =>
 Ask (rSel (aggArr x89) 0 1 false) fun x90 =>
 Ask (rSel (aggArr x89) 1 1 false) fun x91 =>
 Ask (rSel (aggArr x89) 2 1 false) fun x92 =>
 Ask (rSel (aggArr x89) 3 1 false) fun x93 =>
 Ask (rSel (aggArr x13) 57 4 true) fun x94 =>
 Ask (rSel (aggArr x72) 99 4 true) fun x95 =>
 AskF X 58 [x94, x95] fun x96 =>
 AskF X 59 [x96, x76] fun x97 =>
 Ask (rAgg 4 x97) fun x98 =>
 Ask (rSel (aggArr x98) 0 1 false) fun x99 =>
 Ask (rSel (aggArr x98) 1 1 false) fun x100 =>
 Ask (rSel (aggArr x98) 2 1 false) fun x101 =>
 Ask (rSel (aggArr x98) 3 1 false) fun x102 =>
 Ask (rSel (aggArr x13) 2 4 true) fun x103 =>
 Ask (rSel (aggArr x72) 116 4 true) fun x104 =>
 AskF X 58 [x103, x104] fun x105 =>
 AskF X 59 [(.agg #[x99, x100, x101, x102]), x12] fun x106 =>
 AskF X 59 [x106, x12] fun x107 =>
 AskF X 58 [x105, x107] fun x108 =>
 AskF X 59 [x108, x38] fun x109 =>
 Ask (rAgg 4 x109) fun x110 =>
 Ask (rSel (aggArr x110) 0 1 false) fun x111 =>
 Ask (rSel (aggArr x110) 1 1 false) fun x112 =>
 Ask (rSel (aggArr x110) 2 1 false) fun x113 =>
 Ask (rSel (aggArr x110) 3 1 false) fun x114 =>
 Ask (rPlain x90) fun x115 =>
 Ask (rPlain x91) fun x116 =>
 Ask (rPlain x92) fun x117 =>
 Ask (rPlain x93) fun x118 =>
 Ask (rPlain x82) fun x119 =>
 Ask (rPlain x83) fun x120 =>
 Ask (rPlain x84) fun x121 =>
 Ask (rPlain x85) fun x122 =>
 Ask (rPlain x111) fun x123 =>
 Ask (rPlain x112) fun x124 =>
 Ask (rPlain x113) fun x125 =>
 Ask (rPlain x114) fun x126 =>
 Ask (rPlain x99) fun x127 =>
 Ask (rPlain x100) fun x128 =>
 Ask (rPlain x101) fun x129 =>
 Ask (rPlain x102) fun x130 =>
 Ask (rPlain x62) fun x131 =>
 Ask (rPlain x63) fun x132 =>
 Ret X w69 [b6, b10, b10, b10, b10, b14, b9] [] (.tuple #[(.agg #[x115, x116, x117, x118, x119, x120, x121, x122, x123, x124, x125, x126, x127, x128, x129, x130, x131, x132]), (J 0)])))))))))) := by kernel_rfl
set_option maxHeartbeats 2000000 in
theorem keepsRBk : Keeps1 Tryz.prog GT 12 cRBk := by
  refine keepsW (T := Tbk) (A := ann12) hMix keepTbk hGT (calls_of (by kernel_rfl)) (callsW_of (by kernel_rfl)) fun args q w0 hrd _ _ => ?_
  obtain ⟨_, _, rfl, ⟨g, h, rfl, hg, hh⟩, _, _, rfl, rfl, v, _, rfl, hv, _, _, rfl, rfl, _, _, rfl, rfl, _, _, rfl, rfl, _, _, rfl, ⟨lv, rv, rfl, hl, hr⟩, rfl⟩ := hrd
  dsimp only at hg hh hv hl hr
  replace hg : LsEF w0 g q.p.2.2.2.1 := hg
  replace hh : LsEF w0 h q.p.2.2.2.2 := hh
  replace hv : LsO w0 v q.vs := hv
  replace hl : LsF w0 lv q.t.2.2.2.2.1 := hl
  replace hr : LsF w0 rv q.t.2.2.2.2.2 := hr
  refine ⟨[.x (.v 0), .l [.v 1, .v 2], .x (.v 3), .x (.v 4), .x (.v 5), .x (.v 6), .x (.v 7)], [], [], 9, env0 [.agg (rsetL q.p g h).toArray, .int .i64 q.b, .int .i64 q.c, v, S q.y.val, S q.z.val, S q.x.val, .agg (stL q.t lv rv).toArray] w0, fun b => b, 0, rfl, rfl, fun X hX => mem_none hX rfl, fun X hP hS hw hX hR => ?_⟩
  subst hw; try dsimp only at hR
  rw [vc12 X]
  refine a_agg (rsetL_len _ _ _) (rsetL_one (slAt_one hg.1) (slAt_one hh.1)) ?_
  intro b0 hb0 b1 hb1
  rw [ask_aggS]; intro b2 hb2
  rw [ask_aggS]; intro b3 hb3
  rw [ask_aggS]; intro b4 hb4
  refine a_agg (stL_len _ _ _) (stL_one (slAt_one hl.1) (slAt_one hr.1)) ?_
  intro b5 hb5 b6 hb6
  refine call_PE hS (T := Tbk) (f := 23) rfl (q.b, q.c) trivial ?_
  dsimp only
  refine a_sel1 (v := lv) rfl ?_
  refine a_sel1 (v := rv) rfl ?_
  refine a_plain (slAt_one hl.1) ?_
  refine a_plain (slAt_one hr.1) ?_
  intro b7 hb7
  refine a_plain (slAt_one hl.1) ?_
  refine a_plain (slAt_one hr.1) ?_
  have d7 : ∀ {w : World}, Stp [b7] X.w0 w → Stp [] X.w0 w := fun h => h.drop (by simpa using hb7)
  have setS : ∀ {w : World}, Stp [] X.w0 w → cRSetF.rd w (.agg (rsetL q.p g h).toArray) q.p := fun hs => cRSetF_stable _ _ _ _ hs ⟨g, h, rfl, hg, hh⟩
  refine call_W hX hS (T := Tbk) (f := 52) rfl (q.p, (q.b, q.c), q.vs, (0, 0, 0, 0, q.t.2.2.2.2.1, q.t.2.2.2.2.2), ()) (fun w2 hw2 => ⟨⟨_, _, rfl, setS (d7 hw2.stp), _, _, rfl, rfl, _, _, rfl, cLO_stable _ _ _ _ (d7 hw2.stp) hv, _, _, rfl, ⟨lv, rv, tpL_zero _ _ _ _, cLF_stable _ _ _ _ (d7 hw2.stp) hl, cLF_stable _ _ _ _ (d7 hw2.stp) hr⟩, rfl⟩, trivial⟩) fun e w2 w3 h2 k3 s3 su3 hq => ?_
  dsimp only at hq
  have hq : e = J q.fit := hq
  subst hq
  have su3 := d7 su3
  rw [ask_neqN]
  have nothing : ∀ {w' : World} {ow : List Nat} {bl : List KB} {k : Nat}, q.err = k → k ≠ 0 → Ret X w' ow bl (.tuple #[(.agg #[(U 0), (U 0), (U 0), (U 0), (U 0), (U 0), (U 0), (U 0), (U 0), (U 0), (U 0), (U 0), (U 0), (U 0), (U 0), (U 0), (.slice none 0 0), (.slice none 0 0)]), J k]) := fun he hk => hR _ _ _ _ fun _ _ => by
    refine ⟨_, by rw [he], ?_⟩
    unfold Bk.out
    rw [if_neg (by omega)]
    exact ⟨_, _, tpL_zero _ _ _ _, ⟨.inl ⟨rfl, rfl, rfl⟩, fun _ h => by cases h⟩, ⟨.inl ⟨rfl, rfl, rfl⟩, fun _ h => by cases h⟩, TpOwn.none rfl rfl⟩
  refine a_ifN (fun he => nothing (by unfold Bk.err; rw [if_pos he]) he) fun hfit => ?_
  obtain ⟨m, n, hb, hc, ⟨hm0, hm1⟩, ⟨hn0, hn1⟩, hG, hH, hvl, hsl, hsr, hbad⟩ := fits0 hfit
  refine call_PE hS (T := Tbk) (f := 53) rfl (q.y, q.z, q.x) trivial ?_
  refine a_if (fun hz => nothing (by unfold Bk.err; rw [if_neg (by omega), if_pos hz]) (by decide)) fun hz => ?_
  refine a_setBlK ?_
  refine call_PE hS (T := Tbk) (f := 54) rfl q.p.2.1.val q.p.2.1.isLt ?_
  rw [rF_val]
  refine a_ifD (fun hz2 => nothing (by unfold Bk.err; rw [if_neg (by omega), if_neg (by rw [hz]; decide), if_pos hz2]) (by decide)) fun hz2 => ?_
  have herr : q.err = 0 := by unfold Bk.err; rw [if_neg (by omega), if_neg (by rw [hz]; decide), if_neg hz2]
  have em : q.m = m := by unfold Bk.m; rw [hb]; rfl
  have en : q.n = n := by unfold Bk.n; rw [hc]; rfl
  have eN : q.N = m * n := by unfold Bk.N; rw [em, en]
  have hN : q.N ≤ 1024 := by rw [eN]; exact Nat.le_trans (Nat.mul_le_mul hm1 hn1) (by decide)
  have esz : sizeI q.b q.c = ((q.N : Nat) : Int) := by rw [hb, hc, eN]; exact sizeI_nat (by omega)
  rw [esz]
  have ok : ∀ t : TpF, t.2.2.2.2.1.length = q.N → t.2.2.2.2.2.length = q.N → (q.wh t).Ok := fun t h1 h2 => ⟨by show 0 < q.m; omega, by show q.m ≤ 64; omega, by show 0 < q.n; omega, by show q.n ≤ 16; omega, by show q.vs.length = q.n; omega, by show q.N ≤ q.p.2.2.2.1.length; omega, by show q.N ≤ q.p.2.2.2.2.length; omega, h1, h2⟩
  refine a_makes3 (n := q.N) (bl' := fun b8 => kb12_5 b0 b1 b2 b3 b4 b5 b6 b7 b8 _ _ _ _ _ _ _ _ _) _ hX hP tyRI (by omega) (by unfold maxLen; omega) (fun b => by simp [kb12_5]) fun s1 s2 W b8 kW sW o1 o2 hb8 n1 n2 => ?_
  have mk : (madeCells (Value.agg #[U 0, U 0, U 0, U 0]).cells (q.N * 4)).toList = (List.replicate q.N (0 : F)).flatMap encF := made_enc (α := F) (enc := encF) (a := 0) (s := 4) (by kernel_rfl) rfl (by decide) q.N
  rw [mk] at o1 o2
  refine a_plain (own_one o1) ?_
  refine a_plain (own_one o2) ?_
  have s0W : Stp [] X.w0 W := su3.trans0 sW
  have z8 : X.w0.heap.size ≤ b8 := Nat.le_trans k3.sz0 hb8
  have d8 : ∀ {w : World}, Stp [b8] W w → Stp [] w3 w := fun h => by
    have := (sW.trans h).drop (by simpa using hb8)
    simpa using this
  have whRd : ∀ (t : TpF) {w : World} {s r : Value}, Stp [] X.w0 w → LsF w s t.2.2.2.2.1 → LsF w r t.2.2.2.2.2 → t.1 = 0 → t.2.1 = 0 → t.2.2.1 = 0 → t.2.2.2.1 = 0 →
      cWh.rd w [.agg (rsetL q.p g h).toArray, .agg #[.int .i64 q.b, .int .i64 q.c], v, .agg #[U 0, U 0, U 0, U 0, U 0, U 0, U 0, U 0, U 0, U 0, U 0, U 0, U 0, U 0, U 0, U 0, s, r], S q.y.val, S q.z.val, S q.x.val] (q.wh t) := fun t w s r hs h1 h2 e1 e2 e3 e4 => by
    obtain ⟨t1, t2, t3, t4, t5, t6⟩ := t
    dsimp only at e1 e2 e3 e4 h1 h2
    subst e1 e2 e3 e4
    refine ⟨_, _, rfl, setS hs, _, _, rfl, ?_, _, _, rfl, cLO_stable _ _ _ _ hs hv, _, _, rfl, ⟨s, r, tpL_zero _ _ _ _, h1, h2⟩, _, _, rfl, rfl, _, _, rfl, rfl, _, _, rfl, rfl, rfl⟩
    show Value.agg #[.int .i64 q.b, .int .i64 q.c] = Pv ((q.m : Nat) : Int) ((q.n : Nat) : Int)
    rw [em, en, ← hb, ← hc]; rfl
  have zl : (List.replicate q.N (0 : F)).length = q.N := List.length_replicate
  have r0 : ∀ {w : World} {s : Value} {bs : Nat}, W.ownsRow bs 49 4 s q.N ((List.replicate q.N (0 : F)).flatMap encF) → (∀ g', s.ownBlock = some g' → g' ∉ [b8]) → Stp [b8] W w → LsF w s (List.replicate q.N 0) := fun o hn hs => ⟨by rw [zl]; exact (own_slAt o).stp hs hn, fun _ _ => trivial⟩
  refine call_W hX hS (T := Tbk) (f := 55) rfl (q.wh q.still) (fun w hw => ⟨whRd q.still (su3.trans0 (d8 hw.stp)) (r0 o1 n1 hw.stp) (r0 o2 n2 hw.stp) rfl rfl rfl rfl, ok q.still zl zl⟩) fun vw w4 w5 h4 k5 s5 su5 hq => ?_
  obtain ⟨_, view, rfl, _, lw, rw', rfl, hlw, hrw⟩ := hq
  replace hlw : LsF w5 lw (mapN (q.wh q.still).l q.N) := hlw
  replace hrw : LsF w5 rw' (mapN (q.wh q.still).r q.N) := hrw
  have lo8 : ∀ b ∈ [b8, b7, b6, b5, b4, b3, b2, b1, b0], b < w4.heap.size := fun b hb => h4.low (by simpa [kb12_1, or_comm, or_left_comm, or_assoc] using hb)
  have z45 := s5.size
  rw [ask_ext0, ask_ext1]
  intro b9 hb9
  refine a_agg (view_len _ _ _ _ _ _ _ _ _ _ _ _) (view_one (slAt_one hlw.1) (slAt_one hrw.1)) ?_
  intro b10 hb10
  refine b_Inv hS ?_
  rw [ask_zero4]; intro b11 hb11
  rw [ask_aggS]
  refine b_Inv hS ?_
  rw [ask_zero4]; intro b12 hb12
  rw [ask_aggS]
  refine b_One hS ?_
  rw [ask_zero4]; intro b13 hb13
  rw [ask_aggS]
  have k5z := k5.sz0
  obtain ⟨fam, fam0, fam1⟩ := q.fams
  have lo9 : ∀ b ∈ [b8, b7, b6, b5, b4, b3, b2, b1, b0], b < w5.heap.size := fun b hb => Nat.lt_of_lt_of_le (lo8 b hb) z45
  refine ⟨fun a w => ∃ (k : Nat) (V : Nat → Value), a = [J k, U 0, U 0, U 0, U 0, U 0, U 0, U 0, U 0, U 0, U 0, U 0, U 0, U 0, U 0, U 0, U 0, V 0, V 1, S (fp (finv q.y) k).val] ∧ k ≤ q.N ∧ Kn X w ∧ MRows w5 w 49 4 encF [b13, b12, b11, b10, b9, b8, b7, b6, b5, b4, b3, b2, b1, b0] 2 V (fun j => mapN (fam j) k), fun a _ => match a with | i :: _ => q.N - intNat i | _ => 0,
    fun w hw => ⟨0, fun _ => .slice none 0 0, rfl, Nat.zero_le _, hw.kn, ?_⟩, ?_⟩
  · exact (MRows.nil w5 (hw.stp.drop (by simpa using ⟨hb13, hb12, hb11, hb10, hb9⟩)) encF _ 2 _ 4).congr fun j _ => rfl
  rintro _ _ _ _ _ _ _ _ _ _ _ _ _ _ _ _ _ _ _ _ w ⟨k, V, he, hk, hkn, hm⟩
  simp only [List.cons.injEq, and_true] at he
  obtain ⟨rfl, rfl, rfl, rfl, rfl, rfl, rfl, rfl, rfl, rfl, rfl, rfl, rfl, rfl, rfl, rfl, rfl, rfl, rfl, rfl⟩ := he
  rw [ask_lssN]
  have big : ∀ {k : Nat}, k ≤ 2000 → k ≤ maxLen ∧ k * 32 ≤ 140737488355328 := fun hk => ⟨by unfold maxLen; omega, by omega⟩
  have hlen : ∀ j i, (mapN (fam j) i).length = i := fun j i => mapN_len _ _
  refine a_ifD (fun hlt => ?_) fun hge => ?_
  · have s0 := hkn.stp0 hX
    refine a_sel1 (v := lv) rfl ?_
    refine ld_RF hP hkn (hl.1.stp0 s0) rfl (by omega) (fun _ _ => List.not_mem_nil) ?_
    refine a_sel1 (v := lw) rfl ?_
    refine ld_RF hP hkn (hlw.1.stp0 hm.low) rfl (by rw [mapN_len]; exact hlt) (fun _ _ => List.not_mem_nil) ?_
    rw [mapN_get _ 0 hlt]
    refine b_Sub hS ?_
    refine b_Mul hS ?_
    rw [show (q.t.2.2.2.2.1.getD k 0 - (q.wh q.still).l k) * finv q.x = fam 0 k by rw [fam0]; rfl]
    refine a_pushR [fam 0 k] 1 rfl hX hP tyRI rfl rfl (by decide) encF_len hm (i := 0) (by decide) rfl k5z (fun b hb => .inr (by simpa [kb12_3, or_comm, or_left_comm, or_assoc] using hb)) (fun b hb => by simpa [kb12_3, or_comm, or_left_comm, or_assoc] using hb) (fun b hb => by cases hb) (by decide) (by decide) (by kernel_rfl) (by simp [one_encF]) (big (by show (mapN (fam 0) k).length + 1 ≤ _; rw [hlen]; omega)).1 (big (by show (mapN (fam 0) k).length + 1 ≤ _; rw [hlen]; omega)).2 fun v0 w6 k6 z6 hm => ?_
    refine a_plain (own_one (hm.row 0 (by decide))) ?_
    have s6 := k6.stp0 hX
    have nb10 : ∀ b ∈ [b10], w5.heap.size ≤ b := by simpa using hb10
    refine a_sel1 (v := rv) rfl ?_
    refine ld_RF hP k6 (hr.1.stp0 s6) rfl (by omega) (slAt_off hr.1 (by rw [flat_len encF_len]; omega) (by simp; omega)) ?_
    refine a_sel1 (v := rw') rfl ?_
    refine ld_RF hP k6 (hrw.1.stp0 hm.low) rfl (by rw [mapN_len]; exact hlt) (slAt_off hrw.1 (by rw [flat_len encF_len, mapN_len]; omega) nb10) ?_
    rw [mapN_get _ 0 hlt]
    refine b_Sub hS ?_
    refine b_Mul hS ?_
    refine b_Mul hS ?_
    rw [show (q.t.2.2.2.2.2.getD k 0 - (q.wh q.still).r k) * finv q.x * fp (finv q.y) k = fam 1 k by rw [fam1]; rfl]
    refine a_pushR [fam 1 k] 1 rfl hX hP tyRI rfl rfl (by decide) encF_len hm (i := 1) (by decide) rfl k5z (fun b hb => .inr (by simpa [kb12_4, or_comm, or_left_comm, or_assoc] using hb)) (fun b hb => by simpa [kb12_4, or_comm, or_left_comm, or_assoc] using hb) (fun b hb => ⟨by simp at hb; simp [hb], nb10 b hb⟩) (by decide) (by decide) (by kernel_rfl) (by simp [one_encF]) (big (by show (mapN (fam 1) k).length + 1 ≤ _; rw [hlen]; omega)).1 (big (by show (mapN (fam 1) k).length + 1 ≤ _; rw [hlen]; omega)).2 fun v1 w7 k7 z7 hm => ?_
    refine a_plain (own_one (hm.row 1 (by decide))) ?_
    refine b_Mul hS ?_
    rw [ask_aggS, ask_succ (by omega)]
    intro w8 hw8
    refine ⟨⟨k + 1, _, rfl, hlt, hw8.kn, (hm.stpE hw8.stp (by simp) (by simp; omega)).congr (fun j hj => ?_)⟩, by simp [intNat]; omega⟩
    match j, hj with
    | 0, _ => exact (mapN_succ _ _).symm
    | 1, _ => exact (mapN_succ _ _).symm
  · obtain rfl : k = q.N := by omega
    have s0 := hkn.stp0 hX
    refine a_plain (own_one (hm.row 0 (by decide))) ?_
    refine a_plain (own_one (hm.row 1 (by decide))) ?_
    have rd : ∀ (j : Nat) {w' : World}, j < 2 → Stp [] w w' → LsF w' (V j) (mapN (fam j) q.N) := fun j w' hj hs => ⟨by rw [mapN_len]; have := (own_slAt (hm.row j hj)).stp0 hs; rw [mapN_len] at this; exact this, fun _ _ => trivial⟩
    refine call_W hX hS (T := Tbk) (f := 55) rfl (q.wh q.half) (fun w6 hw6 => ⟨whRd q.half (s0.trans0 hw6.stp) (by have := rd 0 (by decide) hw6.stp; rw [fam0] at this; exact this) (by have := rd 1 (by decide) hw6.stp; rw [fam1] at this; exact this) rfl rfl rfl rfl, ok q.half (mapN_len _ _) (mapN_len _ _)⟩) fun vw w6 w7 h6 k7 s7 su7 hq => ?_
    obtain ⟨_, view, rfl, _, lw2, rw2, rfl, hlw2, hrw2⟩ := hq
    rw [ask_ext0, ask_ext1]
    refine a_agg (view_len _ _ _ _ _ _ _ _ _ _ _ _) (view_one (slAt_one hlw2.1) (slAt_one hrw2.1)) ?_
    refine a_setBlK ?_
    refine b_Inv hS ?_
    rw [ask_zero4]; intro b14 hb14
    rw [ask_aggS]
    have fold : ∀ n, Value.agg #[U (lb n 0), U (lb n 1), U (lb n 2), U (lb n 3)] = S n := fun _ => rfl
    have four : ∀ {n : Nat} {K : Value → Value → Value → Value → Prop}, K (U (lb n 0)) (U (lb n 1)) (U (lb n 2)) (U (lb n 3)) → Ask (rAgg 4 (S n)) fun x => Ask (rSel (aggArr x) 0 1 false) fun a => Ask (rSel (aggArr x) 1 1 false) fun b => Ask (rSel (aggArr x) 2 1 false) fun c => Ask (rSel (aggArr x) 3 1 false) fun d => K a b c d := fun {n K} h => by
      rw [ask_aggS]
      exact a_sel1 (v := U (lb n 0)) rfl (a_sel1 (v := U (lb n 1)) rfl (a_sel1 (v := U (lb n 2)) rfl (a_sel1 (v := U (lb n 3)) rfl h)))
    refine a_selL (ds := encS q.t.2.2.1.val) rfl (by rw [stL_len]; omega) ?_
    refine a_selL (ds := encS (q.wh q.half).Sg.val) rfl (by rw [view_len]; omega) ?_
    refine b_Sub hS ?_
    refine b_Mul hS ?_
    refine four (n := q.rho.val) ?_
    refine a_selL (ds := encS q.t.2.1.val) rfl (by rw [stL_len]; omega) ?_
    rw [fold]
    refine b_Mul hS ?_
    refine b_Sub hS ?_
    refine four (n := q.alpha.val) ?_
    refine a_selL (ds := encS q.t.2.2.2.1.val) rfl (by rw [stL_len]; omega) ?_
    refine a_selL (ds := encS (q.wh q.half).T2.val) rfl (by rw [view_len]; omega) ?_
    refine b_Sub hS ?_
    refine b_Mul hS ?_
    refine four (n := q.tau2.val) ?_
    refine a_selL (ds := encS q.t.1.val) rfl (by rw [stL_len]; omega) ?_
    refine a_selL (ds := encS (q.wh q.half).taux.val) rfl (by rw [view_len]; omega) ?_
    refine b_Sub hS ?_
    rw [fold]
    refine b_Mul hS ?_
    refine b_Mul hS ?_
    refine b_Sub hS ?_
    refine b_Mul hS ?_
    refine four (n := q.tau1.val) ?_
    iterate 16 rw [ask_uplain]
    refine a_plain (own_one (hm.row 0 (by decide))) ?_
    refine a_plain (own_one (hm.row 1 (by decide))) ?_
    have hout : q.out = (q.alpha, q.rho, q.tau1, q.tau2, mapN q.dsl q.N, mapN q.dsr q.N) := if_pos herr
    have last : ∀ (j : Nat), j < 2 → ∀ wf, KnownV X w7 [b6, b10, b10, b10, b10, b14, b9] [] wf → LsF wf (V j) (mapN (fam j) q.N) := fun j hj wf hwf => (rd j hj su7).stp hwf.stp fun g' hg' => off_last ((hm.row j hj).lt g' hg').2 su7.size hb14 (hm.off j hj g' hg')
    rw [tp_fold q.alpha q.rho q.tau1 q.tau2 (mapN q.dsl q.N) (mapN q.dsr q.N)]
    refine hR _ _ _ _ fun wf hwf => ⟨_, by rw [herr], ?_⟩
    rw [hout]
    have l0 := last 0 (by decide) wf hwf
    have l1 := last 1 (by decide) wf hwf
    rw [fam0] at l0
    rw [fam1] at l1
    have lt : ∀ j, j < 2 → ∀ g, (V j).ownBlock = some g → X.w0.heap.size ≤ g ∧ g < wf.heap.size := fun j hj g hg => by
      have h1 := (hm.row j hj).lt g hg
      have h2 := su7.size
      have h3 := hwf.size
      exact ⟨Nat.le_trans k5z h1.1, Nat.lt_of_lt_of_le h1.2 (Nat.le_trans h2 h3)⟩
    exact ⟨V 0, V 1, rfl, l0, l1, TpOwn.two (lt 0 (by decide)) (lt 1 (by decide))⟩
#print axioms keepsRBk
end Go.Vc
