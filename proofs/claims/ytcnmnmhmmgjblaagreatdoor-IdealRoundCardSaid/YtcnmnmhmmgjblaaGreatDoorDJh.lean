/-
  The prover in the middle.
-/
import Derived.Test.YtcnmnmhmmgjblaaGreatDoorDJn
namespace Go.Vc
open Go Go.Proofs Go.RowKit
/-! ### a prover, read -/
theorem Pr.cells_inj {P P' : Pr} {d d' : Pq} (o : okTp d.t) (o' : okTp d'.t) (h : P.cells d = P'.cells d') : P = P' ∧ d.m = d'.m ∧ d.n = d'.n ∧ d.t.1 = d'.t.1 ∧ d.t.2.1 = d'.t.2.1 ∧ d.t.2.2.1 = d'.t.2.2.1 ∧ d.t.2.2.2.1 = d'.t.2.2.2.1 := by
  simp only [Pr.cells, tpN, vwL, List.append_assoc] at h
  obtain ⟨e0, h⟩ := List.append_inj h rfl
  obtain ⟨e1, h⟩ := List.append_inj h rfl
  obtain ⟨e2, h⟩ := List.append_inj h rfl
  obtain ⟨e3, h⟩ := List.append_inj h rfl
  obtain ⟨e4, h⟩ := List.append_inj h rfl
  obtain ⟨e5, h⟩ := List.append_inj h rfl
  obtain ⟨e6, h⟩ := List.append_inj h rfl
  obtain ⟨e7, h⟩ := List.append_inj h rfl
  obtain ⟨e8, h⟩ := List.append_inj h rfl
  obtain ⟨e9, h⟩ := List.append_inj h rfl
  obtain ⟨e10, h⟩ := List.append_inj h rfl
  obtain ⟨e11, h⟩ := List.append_inj h rfl
  obtain ⟨e12, h⟩ := List.append_inj h rfl
  obtain ⟨_, h⟩ := List.append_inj h rfl
  obtain ⟨_, h⟩ := List.append_inj h rfl
  obtain ⟨_, h⟩ := List.append_inj h rfl
  obtain ⟨_, h⟩ := List.append_inj h rfl
  obtain ⟨_, hcm⟩ := List.append_inj h rfl
  simp only [List.cons.injEq, and_true] at e0 e5 e6 hcm
  obtain ⟨a1, a2, a3⟩ := e0
  obtain ⟨a4, a5⟩ := e5
  obtain ⟨a6, a7, a8, a9, a10, a11⟩ := e6
  have a1 := J_injI a1
  refine ⟨?_, J_injI a2, J_injI a3, encS_inj o.1 o'.1 e1, encS_inj o.2.1 o'.2.1 e2, encS_inj o.2.2.1 o'.2.2.1 e3, encS_inj o.2.2.2 o'.2.2.2 e4⟩
  cases P; cases P'
  simp only [Pr.mk.injEq]
  exact ⟨a1, a4, a5, a6, a7, a8, a9, a10, a11, encF_inj _ _ e7, encF_inj _ _ e8, encF_inj _ _ e9, encF_inj _ _ e10, encF_inj _ _ e11, encF_inj _ _ e12, hcm⟩
structure PrA where
  b : Nat
  c : Nat
  P : Pr
  d : Pq
  Lc : List F
  Ld : List Nat
  Rc : List F
  Rd : List F
  s : List Nat
theorem PrAt.inj {w : World} {b c c' : Nat} {P P' : Pr} {d d' : Pq} {Lc Lc' Rc Rc' Rd Rd' : List F} {Ld Ld' : List Nat} (h : PrAt w b c P d Lc Ld Rc Rd) (k : PrAt w b c' P' d' Lc' Ld' Rc' Rd') : c = c' ∧ P = P' ∧ d = d' ∧ Lc = Lc' ∧ Ld = Ld' ∧ Rc = Rc' ∧ Rd = Rd' := by
  have e := h.row.symm.trans k.row
  simp only [Option.some.injEq, Obj.cells.injEq] at e
  obtain ⟨rfl, q1, q2, q3, q4, q5, q6⟩ := Pr.cells_inj h.okt k.okt (congrArg Array.toList e.1)
  have ec : c = c' := by
    have := h.cm.symm.trans k.cm
    simp only [Value.func.injEq, true_and, Array.mk.injEq, List.cons.injEq, Value.pointer.injEq, Option.some.injEq, Addr.mk.injEq, and_true] at this
    exact this
  subst ec
  obtain ⟨g, hh, a1, a2, a3, _⟩ := h.set
  obtain ⟨g', hh', b1, b2, b3, _⟩ := k.set
  have ep : d.p = d'.p := SetV'.inj (w := w) (b := c) ⟨h.okp, g, hh, _, a1, a2, a3⟩ ⟨k.okp, g', hh', _, b1, b2, b3⟩
  have e1 := cLS.inj _ _ _ _ h.sl k.sl
  have e2 := cLS.inj _ _ _ _ h.sr k.sr
  have e3 := cLO.inj _ _ _ _ h.vs k.vs
  refine ⟨rfl, rfl, ?_, cLF.inj _ _ _ _ h.lc k.lc, cLS.inj _ _ _ _ h.ld k.ld, cLF.inj _ _ _ _ h.rc k.rc, cLF.inj _ _ _ _ h.rd k.rd⟩
  obtain ⟨p, m, n, vs, t1, t2, t3, t4, t5, t6⟩ := d
  obtain ⟨p', m', n', vs', t1', t2', t3', t4', t5', t6'⟩ := d'
  simp only at q1 q2 q3 q4 q5 q6 ep e1 e2 e3
  subst q1 q2 q3 q4 q5 q6 ep e1 e2 e3
  rfl
theorem map_S_inj : ∀ {l m : List Nat}, (∀ x ∈ l, x < W256) → (∀ x ∈ m, x < W256) → l.map S = m.map S → l = m
  | [], [], _, _, _ => rfl
  | [], _ :: _, _, _, h => by cases h
  | _ :: _, [], _, _, h => by cases h
  | a :: l, b :: m, h1, h2, h => by
    simp only [List.map_cons, List.cons.injEq] at h
    rw [S_inj (h1 a (by simp)) (h2 b (by simp)) h.1, map_S_inj (fun x hx => h1 x (by simp [hx])) (fun x hx => h2 x (by simp [hx])) h.2]
set_option maxRecDepth 100000 in
def cPrA : Cods PrA := ⟨fun w l a => l = Pt a.b :: a.s.map S ∧ (∀ x ∈ a.s, x < W256) ∧ PrAt w a.b a.c a.P a.d a.Lc a.Ld a.Rc a.Rd, fun w l a a' ⟨e, h1, h2⟩ ⟨e', k1, k2⟩ => by
  rw [e] at e'
  simp only [List.cons.injEq, Value.pointer.injEq, Option.some.injEq, Addr.mk.injEq, and_true] at e'
  obtain ⟨eb, es⟩ := e'
  have es2 := map_S_inj h1 k1 es
  obtain ⟨b, c, P, d, Lc, Ld, Rc, Rd, s⟩ := a
  obtain ⟨b', c', P', d', Lc', Ld', Rc', Rd', s'⟩ := a'
  simp only at eb es2 h2 k2
  subst eb es2
  obtain ⟨rfl, rfl, rfl, rfl, rfl, rfl, rfl⟩ := h2.inj k2
  rfl⟩
/-! ### steps -/
theorem a_nf {X : Ctx} {K : Value → Prop} {a ty b o t f off : Nat} (hP : X.P = Tryz.prog) (hu : FdTy Tryz.prog t f off) (hK : K (.pointer (some ⟨b, o + off, none⟩))) : Ask (rGen X.P (.nilCheck (.tmp a)) ty [(a, .pointer (some ⟨b, o, none⟩))]) fun x => Ask (rFad X.P t x f) K :=
  a_nilCheck (a_fadP hP hu hK)
set_option maxRecDepth 100000 in
theorem eq_nilpJ {P : Program} {t e : TypeId} {a : Addr} {w : World} (hu : P.underlying t = some (.pointer e)) (d : Nat) : (Op.equalIn (d + 1) t (.pointer (some a)) (.pointer none)).run P w = .ok false w := by
  simp only [Op.equalIn]
  rw [Sem.run_bind, run_underlying hu]
  rfl
set_option maxRecDepth 100000 in
theorem ask_eq_nilpJ {P : Program} {t e : TypeId} {cx cy : Bool} {a : Addr} {K : Value → Prop} (hu : P.underlying t = some (.pointer e)) : Ask (rBin P .eql t cx cy (.pointer (some a)) (.pointer none)) K = K (.bool false) :=
  ask_eq (runs_iff fun w => by
    have e : (Op.equal t (.pointer (some a)) (.pointer none)).run P w = .ok false w := eq_nilpJ hu _
    simp [binSem, eqGuard, binOp, e])
theorem ptPr : Tryz.prog.underlying 100 = some (.pointer 167) := by kernel_rfl
theorem MRows.setb {α : Type} {U w w' : World} {e s : Nat} {enc : α → List Value} {nb : List Nat} {N : Nat} {V : Nat → Value} {l : Nat → List α} (h : MRows U w e s enc nb N V l) {b : Nat} (hb : b ∈ nb) (hs : Stp [b] w w') : ∃ U', U'.heap.size = U.heap.size ∧ MRows U' w' e s enc nb N V l := by
  refine ⟨{ U with heap := U.heap.setIfInBounds b ((w'.heap[b]?).getD (.cells #[] 0 (0, 0))) }, by simp, ⟨?_, fun q hq hn => ?_⟩, fun j hj => ?_, h.ap, h.off⟩
  · simp only [Array.size_setIfInBounds]
    exact Nat.le_trans h.low.size hs.size
  · simp only [Array.size_setIfInBounds] at hq
    show w'.heap[q]? = (U.heap.setIfInBounds b _)[q]?
    by_cases e : b = q
    · subst e
      rw [Array.getElem?_setIfInBounds_self, if_pos hq]
      have : b < w'.heap.size := Nat.lt_of_lt_of_le hq (Nat.le_trans h.low.size hs.size)
      rw [Array.getElem?_eq_getElem this]; rfl
    · rw [Array.getElem?_setIfInBounds_ne e, hs.past q (Nat.lt_of_lt_of_le hq h.low.size) (by simpa using fun h => e h.symm), h.low.past q hq List.not_mem_nil]
  · have := own_stp (h.row j hj) hs fun g hg hm => h.off j hj g hg (by simp only [List.mem_singleton] at hm; rw [hm]; exact hb)
    simpa using this
/-- A store into the prover. -/
theorem a_stPr {X : Ctx} {u : World} {ow : List Nat} {bl : List KB} {KW : Value → World → Prop} {t ty b o m : Nat} {pa pb : Operand} {l : List (Nat × Value)} {x : Value} {P P' : Pr} {d : Pq} (vs : List Value) (hX : StdN X) (hP : X.P = Tryz.prog) (ht : sz Tryz.prog t = some m) (e1 : argsFn l pa = .pointer (some ⟨b, o, none⟩)) (e2 : argsFn l pb = x)
    (hx : x.cells = vs.toArray) (hm : vs.length = m) (h1 : vs.all (·.oneCell') = true) (hrow : u.heap[b]? = some (.cells (P.cells d).toArray 167 (0, 0))) (how : b ∉ ow) (hmine : X.mine b) (hbl : b ∉ bl.map (·.b)) (ho : o + m ≤ 70) (hs : splice (P.cells d).toArray o vs = (P'.cells d).toArray)
    (hK : ∀ q w', Kn X w' → Stp (ow ++ [b]) u w' → w'.heap[b]? = some (.cells (P'.cells d).toArray 167 (0, 0)) → KW q w') :
    AskO X u ow bl true (.store t pa pb) ty l KW := by
  refine a_storeAt hX hP ht e1 e2 hx hm h1 hrow how hmine hbl (by simpa [Pr.cells_len] using ho) fun q w w' _ k1 _ k3 k4 _ => hK q w' k1 k3 (by rw [← hs]; exact k4)
/-- A load from the prover. -/
theorem a_ldPr {X : Ctx} {u : World} {ow : List Nat} {K : Value → Prop} {t b o : Nat} {P : Pr} {d : Pq} {v : Value} (hP : X.P = Tryz.prog) (hk : Kn X u) (ht : agg? Tryz.prog t = some false) (hrow : u.heap[b]? = some (.cells (P.cells d).toArray 167 (0, 0))) (how : b ∉ ow) (hv : (P.cells d)[o]? = some v) (hK : K v) : Ask (rLoad X u ow t (.pointer (some ⟨b, o, none⟩))) K :=
  a_ldP hk (by rw [hP]; exact ht) hrow how (by simpa using hv) hK
theorem a_ldPrA {X : Ctx} {u : World} {ow : List Nat} {K : Value → Prop} {t b o : Nat} {P : Pr} {d : Pq} (cs : List Value) (hP : X.P = Tryz.prog) (hk : Kn X u) (ht : agg? Tryz.prog t = some true) (hn : sz Tryz.prog t = some cs.length) (hrow : u.heap[b]? = some (.cells (P.cells d).toArray 167 (0, 0))) (how : b ∉ ow) (hv : ((P.cells d).drop o).take cs.length = cs) (hK : K (.agg cs.toArray)) : Ask (rLoad X u ow t (.pointer (some ⟨b, o, none⟩))) K :=
  a_ldPA hk (by rw [hP]; exact ht) (by rw [hP]; exact hn) hrow how (fun j c hj => by
    have hlt : j < cs.length := by
      rcases Nat.lt_or_ge j cs.length with h | h
      · exact h
      · rw [List.getElem?_eq_none h] at hj; cases hj
    rw [← hv, List.getElem?_take_of_lt hlt, List.getElem?_drop] at hj
    simpa using hj) hK
theorem fdP0 : FdTy Tryz.prog 167 0 0 := ⟨0, by kernel_rfl⟩
theorem fdP1 : FdTy Tryz.prog 167 1 1 := ⟨1, by kernel_rfl⟩
theorem fdP2 : FdTy Tryz.prog 167 2 3 := ⟨17, by kernel_rfl⟩
theorem fdP3 : FdTy Tryz.prog 167 3 21 := ⟨0, by kernel_rfl⟩
theorem fdP4 : FdTy Tryz.prog 167 4 22 := ⟨0, by kernel_rfl⟩
theorem fdP5 : FdTy Tryz.prog 167 5 23 := ⟨1, by kernel_rfl⟩
theorem fdP6 : FdTy Tryz.prog 167 6 25 := ⟨1, by kernel_rfl⟩
theorem fdP7 : FdTy Tryz.prog 167 7 27 := ⟨41, by kernel_rfl⟩
theorem fdP8 : FdTy Tryz.prog 167 8 69 := ⟨0, by kernel_rfl⟩
theorem fdT0 : FdTy Tryz.prog 36 0 0 := ⟨3, by kernel_rfl⟩
theorem fdT1 : FdTy Tryz.prog 36 1 4 := ⟨3, by kernel_rfl⟩
theorem fdT2 : FdTy Tryz.prog 36 2 8 := ⟨3, by kernel_rfl⟩
theorem fdT3 : FdTy Tryz.prog 36 3 12 := ⟨3, by kernel_rfl⟩
theorem fdT4 : FdTy Tryz.prog 36 4 16 := ⟨0, by kernel_rfl⟩
theorem fdT5 : FdTy Tryz.prog 36 5 17 := ⟨0, by kernel_rfl⟩
theorem fdL0 : FdTy Tryz.prog 164 0 0 := ⟨0, by kernel_rfl⟩
theorem fdL1 : FdTy Tryz.prog 164 1 1 := ⟨0, by kernel_rfl⟩
theorem fdV2 : FdTy Tryz.prog 83 2 8 := ⟨3, by kernel_rfl⟩
theorem fdV3 : FdTy Tryz.prog 83 3 12 := ⟨3, by kernel_rfl⟩
theorem fdV4 : FdTy Tryz.prog 83 4 16 := ⟨3, by kernel_rfl⟩
theorem fdV5 : FdTy Tryz.prog 83 5 20 := ⟨3, by kernel_rfl⟩
theorem szLS1 : sz Tryz.prog 28 = some 1 := by kernel_rfl
theorem aggFn : agg? Tryz.prog 165 = some false := by kernel_rfl
theorem aggPm : agg? Tryz.prog 45 = some true := by kernel_rfl
theorem szPm : sz Tryz.prog 45 = some 2 := by kernel_rfl
theorem aggVw : agg? Tryz.prog 83 = some true := by kernel_rfl
theorem szVw : sz Tryz.prog 83 = some 42 := by kernel_rfl
theorem szIn1 : sz Tryz.prog 3 = some 1 := by kernel_rfl
theorem aggSO : agg? Tryz.prog 47 = some false := by kernel_rfl
#print axioms a_stPr
end Go.Vc
