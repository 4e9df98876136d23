import Derived.Test.YtcnmnmhmmgjblaaGreatDoorDIm
/-
  What the law makes of its input: lists cut, both sides; what it compares.
-/
namespace Go.Vc
open Go Go.Proofs Go.RowKit
/-! ### lists of raw scalars -/
section
variable {X : Ctx} {u : World} {v : Value} {n i : Nat} {ow : List Nat} {K : Value → Prop}
end
def ann24 : Ann := ⟨[], [], 70, [], [1, 2], none, [], []⟩
theorem vc24 (X : Ctx) (β : Nat → Nat) (x0 : Value) : (run Tryz.prog ann24 24 [.x (.v 0)] [] [] 2).den X (env0 [x0] X.w0) 2 β 0 (fun _ _ _ => False) = (
 Ask (rAgg 4 x0) fun x2 =>
 AskNew X.w0 fun _ =>
 Ask (rAgg 4 (.agg #[(U 0), (U 0), (U 0), (U 0)])) fun _ =>
 AskNew X.w0 fun b1 =>
 Ask (rAgg 4 x2) fun x4 =>
 Ask (rSel (aggArr x4) 0 1 false) fun x5 =>
 Ask (rSel (aggArr x4) 1 1 false) fun x6 =>
 Ask (rSel (aggArr x4) 2 1 false) fun x7 =>
 Ask (rSel (aggArr x4) 3 1 false) fun x8 =>
 Ask (rAgg 4 (.agg #[x5, x6, x7, x8])) fun x9 =>
 Ret X X.w0 [b1] [] x9) := by kernel_rfl
def cSame1 : Contract := fnP enc1 (· < W256) (fun n v => v = S n)
theorem keepsLn1 : Keeps1 Tryz.prog GT 24 cSame1 := by
  refine keepsP (T := T0) (A := ann24) inj1 hMix keepT0 hGT (calls_of (by kernel_rfl)) (callsW_of (by kernel_rfl)) fun n w0 hn _ => ⟨[.x (.v 0)], [], [], 2, env0 [S n] w0, fun b => b, 0, rfl, rfl, fun X hX => mem_none hX rfl, fun X hP hS hw hX hR => ?_⟩
  subst hw
  rw [vc24 X]
  rw [ask_aggS]; intro _ _
  rw [ask_zero4]; intro _ _
  rw [ask_aggS]
  iterate 4 refine a_sel1 rfl ?_
  rw [show Value.agg #[U (lb n 0), U (lb n 1), U (lb n 2), U (lb n 3)] = S n from rfl, ask_aggS]
  exact hR _ _ _ _ rfl
/-! ### lists as they are made, a mark behind them -/
/-! ### the document's -/
end Go.Vc

/-
  What the law compares.
-/
namespace Go.Vc
open Go Go.Proofs Go.RowKit
end Go.Vc

/-
  The law's case: what it reads as, what each side makes of it.
-/
namespace Go.Vc
open Go Go.Proofs Go.RowKit
/-! ### numbers of sixty-four bits -/
def encU (n : Nat) : List Value := [U n]
theorem encU_len (n : Nat) : (encU n).length = 1 := rfl
def cLU : Cod (List Nat) := cL encU (· < B64) 1 encU_len (fun a b _ _ h => U_inj' (by simpa [encU] using h))
theorem tyU64L : ElTy Tryz.prog 25 22 1 8 (U 0) := ⟨by kernel_rfl, by kernel_rfl⟩
/-- A case. -/
structure Cs where
  b : Int
  c : Int
  B : Nat
  Bl : Nat
  Q : Nat
  G : List Nat
  H : List Nat
  V : List Nat
  Bs : List Nat
  C : List Nat
  y : Nat
  z : Nat
  x : Nat
  al : Nat
  rho : Nat
  t1 : Nat
  t2 : Nat
  SL : List Nat
  SR : List Nat
  L : List Nat
  R : List Nat
  taux : Nat
  mu : Nat
  S : Nat
  T2 : Nat
structure Cs.Ok (d : Cs) : Prop where
  B : d.B < W256
  Bl : d.Bl < W256
  Q : d.Q < W256
  y : d.y < W256
  z : d.z < W256
  x : d.x < W256
  al : d.al < W256
  rho : d.rho < W256
  t1 : d.t1 < W256
  t2 : d.t2 < W256
  taux : d.taux < W256
  mu : d.mu < W256
  S : d.S < W256
  T2 : d.T2 < W256
def csL (d : Cs) (g h v bl c sl sr l r : Value) : List Value := [.int .i64 d.b, .int .i64 d.c] ++ encS d.B ++ encS d.Bl ++ encS d.Q ++ [g, h, v, bl, c] ++ encS d.y ++ encS d.z ++ encS d.x ++ encS d.al ++ encS d.rho ++ encS d.t1 ++ encS d.t2 ++ [sl, sr, l, r] ++ encS d.taux ++ encS d.mu ++ encS d.S ++ encS d.T2
theorem csL_len (d : Cs) (g h v bl c sl sr l r : Value) : (csL d g h v bl c sl sr l r).length = 67 := by kernel_rfl
structure CsAt (w : World) (d : Cs) (g h v bl c sl sr l r : Value) : Prop where
  g : cLS.rd w g d.G
  h : cLS.rd w h d.H
  v : cLU.rd w v d.V
  bl : cLS.rd w bl d.Bs
  c : cLS.rd w c d.C
  sl : cLS.rd w sl d.SL
  sr : cLS.rd w sr d.SR
  l : cLS.rd w l d.L
  r : cLS.rd w r d.R
theorem CsAt.stp0 {u w : World} {d : Cs} {g h v bl c sl sr l r : Value} (k : CsAt u d g h v bl c sl sr l r) (hs : Stp [] u w) : CsAt w d g h v bl c sl sr l r :=
  ⟨cL_stable _ _ _ _ hs k.g, cL_stable _ _ _ _ hs k.h, cL_stable _ _ _ _ hs k.v, cL_stable _ _ _ _ hs k.bl, cL_stable _ _ _ _ hs k.c, cL_stable _ _ _ _ hs k.sl, cL_stable _ _ _ _ hs k.sr, cL_stable _ _ _ _ hs k.l, cL_stable _ _ _ _ hs k.r⟩
theorem CsAt.one {w : World} {d : Cs} {g h v bl c sl sr l r : Value} (k : CsAt w d g h v bl c sl sr l r) : (csL d g h v bl c sl sr l r).all (·.oneCell') = true := by
  simp only [csL, List.all_append, one_encS, List.all_cons, List.all_nil, slAt_one k.g.1, slAt_one k.h.1, slAt_one k.v.1, slAt_one k.bl.1, slAt_one k.c.1, slAt_one k.sl.1, slAt_one k.sr.1, slAt_one k.l.1, slAt_one k.r.1, Bool.and_true]
  rfl
def cCs : Cods Cs := ⟨fun w a d => ∃ g h v bl c sl sr l r, a = [.agg (csL d g h v bl c sl sr l r).toArray] ∧ d.Ok ∧ CsAt w d g h v bl c sl sr l r, fun w a d e ⟨g, h, v, bl, c, sl, sr, l, r, ea, ok, at1⟩ ⟨g', h', v', bl', c', sl', sr', l', r', ea', ok', at2⟩ => by
  rw [ea] at ea'
  simp only [List.cons.injEq, Value.agg.injEq, and_true] at ea'
  have e' := congrArg Array.toList ea'
  simp only [csL, List.append_assoc] at e'
  obtain ⟨q1, e'⟩ := List.append_inj e' rfl
  obtain ⟨q2, e'⟩ := List.append_inj e' rfl
  obtain ⟨q3, e'⟩ := List.append_inj e' rfl
  obtain ⟨q4, e'⟩ := List.append_inj e' rfl
  obtain ⟨q5, e'⟩ := List.append_inj e' rfl
  obtain ⟨q6, e'⟩ := List.append_inj e' rfl
  obtain ⟨q7, e'⟩ := List.append_inj e' rfl
  obtain ⟨q8, e'⟩ := List.append_inj e' rfl
  obtain ⟨q9, e'⟩ := List.append_inj e' rfl
  obtain ⟨q10, e'⟩ := List.append_inj e' rfl
  obtain ⟨q11, e'⟩ := List.append_inj e' rfl
  obtain ⟨q12, e'⟩ := List.append_inj e' rfl
  obtain ⟨q13, e'⟩ := List.append_inj e' rfl
  obtain ⟨q14, e'⟩ := List.append_inj e' rfl
  obtain ⟨q15, e'⟩ := List.append_inj e' rfl
  obtain ⟨q16, q17⟩ := List.append_inj e' rfl
  simp only [List.cons.injEq, Value.int.injEq, true_and, and_true] at q1 q5 q13
  obtain ⟨p1, p2⟩ := q1
  obtain ⟨rfl, rfl, rfl, rfl, rfl⟩ := q5
  obtain ⟨rfl, rfl, rfl, rfl⟩ := q13
  have f1 := cLS.inj _ _ _ _ at1.g at2.g
  have f2 := cLS.inj _ _ _ _ at1.h at2.h
  have f3 := cLU.inj _ _ _ _ at1.v at2.v
  have f4 := cLS.inj _ _ _ _ at1.bl at2.bl
  have f5 := cLS.inj _ _ _ _ at1.c at2.c
  have f6 := cLS.inj _ _ _ _ at1.sl at2.sl
  have f7 := cLS.inj _ _ _ _ at1.sr at2.sr
  have f8 := cLS.inj _ _ _ _ at1.l at2.l
  have f9 := cLS.inj _ _ _ _ at1.r at2.r
  have k2 := encS_inj ok.B ok'.B q2
  have k3 := encS_inj ok.Bl ok'.Bl q3
  have k4 := encS_inj ok.Q ok'.Q q4
  have k6 := encS_inj ok.y ok'.y q6
  have k7 := encS_inj ok.z ok'.z q7
  have k8 := encS_inj ok.x ok'.x q8
  have k9 := encS_inj ok.al ok'.al q9
  have k10 := encS_inj ok.rho ok'.rho q10
  have k11 := encS_inj ok.t1 ok'.t1 q11
  have k12 := encS_inj ok.t2 ok'.t2 q12
  have k14 := encS_inj ok.taux ok'.taux q14
  have k15 := encS_inj ok.mu ok'.mu q15
  have k16 := encS_inj ok.S ok'.S q16
  have k17 := encS_inj ok.T2 ok'.T2 q17
  obtain ⟨⟩ := d
  obtain ⟨⟩ := e
  simp only at p1 p2 f1 f2 f3 f4 f5 f6 f7 f8 f9 k2 k3 k4 k6 k7 k8 k9 k10 k11 k12 k14 k15 k16 k17
  subst p1 p2 f1 f2 f3 f4 f5 f6 f7 f8 f9 k2 k3 k4 k6 k7 k8 k9 k10 k11 k12 k14 k15 k16 k17
  rfl⟩
section
end
end Go.Vc

/-
  The law's case: tapes, openings.
-/
namespace Go.Vc
open Go Go.Proofs Go.RowKit
/-! ### openings -/
section
variable {X : Ctx} {u : World} {v : Value} {n i : Nat} {ow : List Nat} {K : Value → Prop}
theorem ld_U64 {l : List Nat} (hP : X.P = Tryz.prog) (hk : Kn X u) (h : SlAt u v n (l.flatMap encU)) (hn : l.length = n) (hi : i < l.length) (how : ∀ b, v.ownBlock = some b → b ∉ ow)
    (hK : K (U (l.getD i 0))) : Ask (rIad X.P 25 v (J i)) fun p => Ask (rLoad X u ow 22 p) K := by
  refine a_iadN hP tyU64L h (by omega) ?_
  have e : l.getD i 0 = l[i] := by rw [List.getD_eq_getElem?_getD, List.getElem?_eq_getElem hi]; rfl
  refine a_load_one hk h (by rw [hP]; exact aggU64) how (flat_at encU_len l i _ (List.getElem?_eq_getElem hi) 0 (U l[i]) rfl) ?_
  rw [← e]; exact hK
end
end Go.Vc
