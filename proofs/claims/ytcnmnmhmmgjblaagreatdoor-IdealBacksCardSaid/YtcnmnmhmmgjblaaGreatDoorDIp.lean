/-
  The law's case: what it reads as, what each side makes of it.
-/
import Derived.Test.YtcnmnmhmmgjblaaGreatDoorDIo
namespace Go.Vc
open Go Go.Proofs Go.RowKit
/-! ### numbers of sixty-four bits -/
def encU (n : Nat) : List Value := [U n]
theorem encU_len (n : Nat) : (encU n).length = 1 := rfl
def cLU : Cod (List Nat) := cL encU (· < B64) 1 encU_len (fun a b _ _ h => U_inj' (by simpa [encU] using h))
theorem tyU64L : ElTy Tryz.prog 25 22 1 8 (U 0) := ⟨by kernel_rfl, by kernel_rfl⟩
/-- A case. -/
structure Cs where
  b : Int
  c : Int
  B : Nat
  Bl : Nat
  Q : Nat
  G : List Nat
  H : List Nat
  V : List Nat
  Bs : List Nat
  C : List Nat
  y : Nat
  z : Nat
  x : Nat
  al : Nat
  rho : Nat
  t1 : Nat
  t2 : Nat
  SL : List Nat
  SR : List Nat
  L : List Nat
  R : List Nat
  taux : Nat
  mu : Nat
  S : Nat
  T2 : Nat
structure Cs.Ok (d : Cs) : Prop where
  B : d.B < W256
  Bl : d.Bl < W256
  Q : d.Q < W256
  y : d.y < W256
  z : d.z < W256
  x : d.x < W256
  al : d.al < W256
  rho : d.rho < W256
  t1 : d.t1 < W256
  t2 : d.t2 < W256
  taux : d.taux < W256
  mu : d.mu < W256
  S : d.S < W256
  T2 : d.T2 < W256
def csL (d : Cs) (g h v bl c sl sr l r : Value) : List Value := [.int .i64 d.b, .int .i64 d.c] ++ encS d.B ++ encS d.Bl ++ encS d.Q ++ [g, h, v, bl, c] ++ encS d.y ++ encS d.z ++ encS d.x ++ encS d.al ++ encS d.rho ++ encS d.t1 ++ encS d.t2 ++ [sl, sr, l, r] ++ encS d.taux ++ encS d.mu ++ encS d.S ++ encS d.T2
theorem csL_len (d : Cs) (g h v bl c sl sr l r : Value) : (csL d g h v bl c sl sr l r).length = 67 := by kernel_rfl
structure CsAt (w : World) (d : Cs) (g h v bl c sl sr l r : Value) : Prop where
  g : cLS.rd w g d.G
  h : cLS.rd w h d.H
  v : cLU.rd w v d.V
  bl : cLS.rd w bl d.Bs
  c : cLS.rd w c d.C
  sl : cLS.rd w sl d.SL
  sr : cLS.rd w sr d.SR
  l : cLS.rd w l d.L
  r : cLS.rd w r d.R
theorem CsAt.stp0 {u w : World} {d : Cs} {g h v bl c sl sr l r : Value} (k : CsAt u d g h v bl c sl sr l r) (hs : Stp [] u w) : CsAt w d g h v bl c sl sr l r :=
  ⟨cL_stable _ _ _ _ hs k.g, cL_stable _ _ _ _ hs k.h, cL_stable _ _ _ _ hs k.v, cL_stable _ _ _ _ hs k.bl, cL_stable _ _ _ _ hs k.c, cL_stable _ _ _ _ hs k.sl, cL_stable _ _ _ _ hs k.sr, cL_stable _ _ _ _ hs k.l, cL_stable _ _ _ _ hs k.r⟩
theorem CsAt.one {w : World} {d : Cs} {g h v bl c sl sr l r : Value} (k : CsAt w d g h v bl c sl sr l r) : (csL d g h v bl c sl sr l r).all (·.oneCell') = true := by
  simp only [csL, List.all_append, one_encS, List.all_cons, List.all_nil, slAt_one k.g.1, slAt_one k.h.1, slAt_one k.v.1, slAt_one k.bl.1, slAt_one k.c.1, slAt_one k.sl.1, slAt_one k.sr.1, slAt_one k.l.1, slAt_one k.r.1, Bool.and_true]
  rfl
def cCs : Cods Cs := ⟨fun w a d => ∃ g h v bl c sl sr l r, a = [.agg (csL d g h v bl c sl sr l r).toArray] ∧ d.Ok ∧ CsAt w d g h v bl c sl sr l r, fun w a d e ⟨g, h, v, bl, c, sl, sr, l, r, ea, ok, at1⟩ ⟨g', h', v', bl', c', sl', sr', l', r', ea', ok', at2⟩ => by
  rw [ea] at ea'
  simp only [List.cons.injEq, Value.agg.injEq, and_true] at ea'
  have e' := congrArg Array.toList ea'
  simp only [csL, List.append_assoc] at e'
  obtain ⟨q1, e'⟩ := List.append_inj e' rfl
  obtain ⟨q2, e'⟩ := List.append_inj e' rfl
  obtain ⟨q3, e'⟩ := List.append_inj e' rfl
  obtain ⟨q4, e'⟩ := List.append_inj e' rfl
  obtain ⟨q5, e'⟩ := List.append_inj e' rfl
  obtain ⟨q6, e'⟩ := List.append_inj e' rfl
  obtain ⟨q7, e'⟩ := List.append_inj e' rfl
  obtain ⟨q8, e'⟩ := List.append_inj e' rfl
  obtain ⟨q9, e'⟩ := List.append_inj e' rfl
  obtain ⟨q10, e'⟩ := List.append_inj e' rfl
  obtain ⟨q11, e'⟩ := List.append_inj e' rfl
  obtain ⟨q12, e'⟩ := List.append_inj e' rfl
  obtain ⟨q13, e'⟩ := List.append_inj e' rfl
  obtain ⟨q14, e'⟩ := List.append_inj e' rfl
  obtain ⟨q15, e'⟩ := List.append_inj e' rfl
  obtain ⟨q16, q17⟩ := List.append_inj e' rfl
  simp only [List.cons.injEq, Value.int.injEq, true_and, and_true] at q1 q5 q13
  obtain ⟨p1, p2⟩ := q1
  obtain ⟨rfl, rfl, rfl, rfl, rfl⟩ := q5
  obtain ⟨rfl, rfl, rfl, rfl⟩ := q13
  have f1 := cLS.inj _ _ _ _ at1.g at2.g
  have f2 := cLS.inj _ _ _ _ at1.h at2.h
  have f3 := cLU.inj _ _ _ _ at1.v at2.v
  have f4 := cLS.inj _ _ _ _ at1.bl at2.bl
  have f5 := cLS.inj _ _ _ _ at1.c at2.c
  have f6 := cLS.inj _ _ _ _ at1.sl at2.sl
  have f7 := cLS.inj _ _ _ _ at1.sr at2.sr
  have f8 := cLS.inj _ _ _ _ at1.l at2.l
  have f9 := cLS.inj _ _ _ _ at1.r at2.r
  have k2 := encS_inj ok.B ok'.B q2
  have k3 := encS_inj ok.Bl ok'.Bl q3
  have k4 := encS_inj ok.Q ok'.Q q4
  have k6 := encS_inj ok.y ok'.y q6
  have k7 := encS_inj ok.z ok'.z q7
  have k8 := encS_inj ok.x ok'.x q8
  have k9 := encS_inj ok.al ok'.al q9
  have k10 := encS_inj ok.rho ok'.rho q10
  have k11 := encS_inj ok.t1 ok'.t1 q11
  have k12 := encS_inj ok.t2 ok'.t2 q12
  have k14 := encS_inj ok.taux ok'.taux q14
  have k15 := encS_inj ok.mu ok'.mu q15
  have k16 := encS_inj ok.S ok'.S q16
  have k17 := encS_inj ok.T2 ok'.T2 q17
  obtain ⟨⟩ := d
  obtain ⟨⟩ := e
  simp only at p1 p2 f1 f2 f3 f4 f5 f6 f7 f8 f9 k2 k3 k4 k6 k7 k8 k9 k10 k11 k12 k14 k15 k16 k17
  subst p1 p2 f1 f2 f3 f4 f5 f6 f7 f8 f9 k2 k3 k4 k6 k7 k8 k9 k10 k11 k12 k14 k15 k16 k17
  rfl⟩
def ann10 : Ann := ⟨[], [], 70, [], [], none, [], []⟩
theorem vc10 (X : Ctx) (β : Nat → Nat) (x0 : Value) : (run Tryz.prog ann10 10 [.x (.v 0)] [] [] 2).den X (env0 [x0] X.w0) 2 β 0 (fun _ _ _ => False) = (
 Ask (rAgg 67 x0) fun x2 =>
 AskNew X.w0 fun _ =>
 AskNew X.w0 fun b1 =>
 Ask (rSel (aggArr x2) 0 1 false) fun x3 =>
 Ask (rSel (aggArr x2) 1 1 false) fun x4 =>
 Ask (rPlain x3) fun x5 =>
 Ask (rPlain x4) fun x6 =>
 Ask (rPlain x5) fun x7 =>
 Ask (rPlain x6) fun x8 =>
 Ret X X.w0 [b1] [] (.agg #[x7, x8])) := by kernel_rfl
def cPar : Contract := fnW cCs (fun _ _ => True) (fun d _ v _ => v = Pv d.b d.c)
theorem keepsPar : Keeps1 Tryz.prog GT 10 cPar := by
  refine keepsW (T := T0) (A := ann10) hMix keepT0 hGT (calls_of (by kernel_rfl)) (callsW_of (by kernel_rfl)) fun args d w0 hrd hpre hg => ?_
  obtain ⟨g, h, v, bl, c, sl, sr, l, r, rfl, ok, at0⟩ := hrd
  refine ⟨[.x (.v 0)], [], [], 2, env0 [.agg (csL d g h v bl c sl sr l r).toArray] w0, fun b => b, 0, rfl, rfl, fun X hX => mem_none hX rfl, fun X hP hS hw hX hR => ?_⟩
  subst hw; try dsimp only at hR
  rw [vc10 X]
  refine a_agg (csL_len _ _ _ _ _ _ _ _ _ _) at0.one ?_
  intro b0 hb0 b1 hb1
  refine a_sel1 (v := .int .i64 d.b) (by kernel_rfl) ?_
  refine a_sel1 (v := .int .i64 d.c) (by kernel_rfl) ?_
  iterate 4 refine a_plain rfl ?_
  exact hR _ _ _ _ fun _ _ => rfl
theorem MkAt.stp {k : Nat} {ex : List Nat} {u w : World} {v : Value} {l : List Nat} (h : MkAt k u v l) (hs : Stp ex u w) (hb : ∀ g, v.ownBlock = some g → g ∉ ex) : MkAt k w v l := by
  obtain ⟨g, cap, rfl, h, ok⟩ := h
  exact ⟨g, cap, rfl, h.stp hs (fun q hq => hb q hq), ok⟩
def Tca : Table := ((((((T0.add 24 cSame1).add 51 (cMade 77)).add 41 (cMade 78)).add 60 cDLn).add 15 cqLeast).add 61 (cMadeR 62 26 encEF rF)).add 63 (cMadeR 49 4 encF rF)
theorem keepTca : AllKeep Tryz.prog GT Tca := ((((((keepT0.add keepsLn1).add keepsLs).add keepsScs).add keepsDLn).add keepsqRLeast).add keepsDLs).add keepsDScs
section
variable {X : Ctx} {K : Value → Prop} (hS : X.S = Tca.spec)
include hS
theorem c_Line {n : Nat} (hn : n < W256) (hK : K (S n)) : AskF X 24 [S n] K := call_PE hS (T := Tca) (f := 24) rfl n hn hK
theorem c_DLine {n : Nat} (hn : n < W256) (hK : K (EF (rF n))) : AskF X 60 [S n] K := call_PE hS (T := Tca) (f := 60) rfl n hn hK
theorem c_Least {n : Nat} (hn : n < W256) (hK : K (S (rF n).val)) : AskF X 15 [S n] K := call_PE hS (T := Tca) (f := 15) rfl n hn hK
end
theorem a_fourS {n : Nat} {K : Value → Value → Value → Value → Prop} (h : K (U (lb n 0)) (U (lb n 1)) (U (lb n 2)) (U (lb n 3))) : Ask (rAgg 4 (S n)) fun x => Ask (rSel (aggArr x) 0 1 false) fun a => Ask (rSel (aggArr x) 1 1 false) fun b => Ask (rSel (aggArr x) 2 1 false) fun c => Ask (rSel (aggArr x) 3 1 false) fun d => K a b c d := by
  rw [ask_aggS]
  exact a_sel1 (v := U (lb n 0)) rfl (a_sel1 (v := U (lb n 1)) rfl (a_sel1 (v := U (lb n 2)) rfl (a_sel1 (v := U (lb n 3)) rfl h)))
def ann9 : Ann := ⟨[], [24], 70, [(51, false)], [], none, [], []⟩
def kb9_0 (b0 b1 : Nat) (x2 : Value) : List KB := [⟨b0, true, 27, (aggArr x2)⟩, ⟨b1, true, 42, #[(U 0), (U 0), (U 0), (U 0), (U 0), (U 0), (U 0), (U 0), (U 0), (U 0), (U 0), (U 0), (.slice none 0 0), (.slice none 0 0)]⟩]
theorem vc9 (X : Ctx) (β : Nat → Nat) (x0 : Value) : (run Tryz.prog ann9 9 [.x (.v 0)] [] [] 2).den X (env0 [x0] X.w0) 2 β 0 (fun _ _ _ => False) = (
 Ask (rAgg 67 x0) fun x2 =>
 AskNew X.w0 fun b0 =>
 AskNew X.w0 fun b1 =>
 Ask (rSel (aggArr x2) 2 4 true) fun x3 =>
 AskF X 24 [x3] fun x4 =>
 Ask (rSel (aggArr x2) 6 4 true) fun x5 =>
 AskF X 24 [x5] fun x6 =>
 Ask (rSel (aggArr x2) 10 4 true) fun x7 =>
 AskF X 24 [x7] fun x8 =>
 Ask (rSel (aggArr x2) 14 1 false) fun x9 =>
 AskW X X.w0 [] (kb9_0 b0 b1 x2) false 51 [x9] fun x10 w10 =>
 Ask (rSel (aggArr x2) 15 1 false) fun x11 =>
 AskW X w10 [] (kb9_0 b0 b1 x2) false 51 [x11] fun x12 w12 =>
 Ask (rAgg 4 x4) fun x13 =>
 Ask (rSel (aggArr x13) 0 1 false) fun x14 =>
 Ask (rSel (aggArr x13) 1 1 false) fun x15 =>
 Ask (rSel (aggArr x13) 2 1 false) fun x16 =>
 Ask (rSel (aggArr x13) 3 1 false) fun x17 =>
 Ask (rAgg 4 x6) fun x18 =>
 Ask (rSel (aggArr x18) 0 1 false) fun x19 =>
 Ask (rSel (aggArr x18) 1 1 false) fun x20 =>
 Ask (rSel (aggArr x18) 2 1 false) fun x21 =>
 Ask (rSel (aggArr x18) 3 1 false) fun x22 =>
 Ask (rAgg 4 x8) fun x23 =>
 Ask (rSel (aggArr x23) 0 1 false) fun x24 =>
 Ask (rSel (aggArr x23) 1 1 false) fun x25 =>
 Ask (rSel (aggArr x23) 2 1 false) fun x26 =>
 Ask (rSel (aggArr x23) 3 1 false) fun x27 =>
 Ask (rPlain x10) fun x28 =>
 Ask (rPlain x12) fun x29 =>
 Ask (rPlain x14) fun x30 =>
 Ask (rPlain x15) fun x31 =>
 Ask (rPlain x16) fun x32 =>
 Ask (rPlain x17) fun x33 =>
 Ask (rPlain x19) fun x34 =>
 Ask (rPlain x20) fun x35 =>
 Ask (rPlain x21) fun x36 =>
 Ask (rPlain x22) fun x37 =>
 Ask (rPlain x24) fun x38 =>
 Ask (rPlain x25) fun x39 =>
 Ask (rPlain x26) fun x40 =>
 Ask (rPlain x27) fun x41 =>
 Ask (rPlain x28) fun x42 =>
 Ask (rPlain x29) fun x43 =>
 Ret X w12 [b1] [] (.agg #[x30, x31, x32, x33, x34, x35, x36, x37, x38, x39, x40, x41, x42, x43])) := by kernel_rfl
def setN (d : Cs) : SetN := (d.B, d.Bl, d.Q, cut d.G, cut d.H)
def cSt : Contract := fnW cCs (fun _ _ => True) (fun d _ v w' => cSetN.rd w' v (setN d))
theorem keepsSt : Keeps1 Tryz.prog GT 9 cSt := by
  refine keepsW (T := Tca) (A := ann9) hMix keepTca hGT (calls_of (by kernel_rfl)) (callsW_of (by kernel_rfl)) fun args d w0 hrd hpre hg => ?_
  obtain ⟨g, h, v, bl, c, sl, sr, l, r, rfl, ok, at0⟩ := hrd
  refine ⟨[.x (.v 0)], [], [], 2, env0 [.agg (csL d g h v bl c sl sr l r).toArray] w0, fun b => b, 0, rfl, rfl, fun X hX => mem_none hX rfl, fun X hP hS hw hX hR => ?_⟩
  subst hw; try dsimp only at hR
  rw [vc9 X]
  refine a_agg (csL_len _ _ _ _ _ _ _ _ _ _) at0.one ?_
  intro b0 hb0 b1 hb1
  refine a_selL (ds := encS d.B) (by kernel_rfl) (by rw [csL_len]; omega) ?_
  refine c_Line hS ok.B ?_
  refine a_selL (ds := encS d.Bl) (by kernel_rfl) (by rw [csL_len]; omega) ?_
  refine c_Line hS ok.Bl ?_
  refine a_selL (ds := encS d.Q) (by kernel_rfl) (by rw [csL_len]; omega) ?_
  refine c_Line hS ok.Q ?_
  refine a_sel1 (v := g) (by kernel_rfl) ?_
  refine call_W hX hS (T := Tca) (f := 51) rfl (d.G, ()) (fun w hw => ⟨⟨_, _, rfl, (at0.stp0 hw.stp).g, rfl⟩, trivial⟩) fun g' w1 w2 h1 k2 s2 su2 hg => ?_
  refine a_sel1 (v := h) (by kernel_rfl) ?_
  refine call_W hX hS (T := Tca) (f := 51) rfl (d.H, ()) (fun w hw => ⟨⟨_, _, rfl, (at0.stp0 (su2.trans0 hw.stp)).h, rfl⟩, trivial⟩) fun h' w3 w4 h3 k4 s4 su4 hh => ?_
  obtain ⟨hg, gg, eg, zg⟩ := hg
  obtain ⟨hh, gh, eh, zh⟩ := hh
  dsimp only at hg hh
  have lo1 : b1 < w1.heap.size := h1.low (by simp [kb9_0])
  have lo3 : b1 < w3.heap.size := h3.low (by simp [kb9_0])
  iterate 3 refine a_fourS ?_
  refine a_plain (slAt_one hg.ls.1) ?_
  refine a_plain (slAt_one hh.ls.1) ?_
  iterate 12 rw [ask_uplain]
  refine a_plain (slAt_one hg.ls.1) ?_
  refine a_plain (slAt_one hh.ls.1) ?_
  refine hR _ _ _ _ fun w hw => ⟨⟨ok.B, ok.Bl, ok.Q⟩, g', h', rfl, ?_, ?_⟩
  · exact ((hg.stp0 su4).stp hw.stp (fun q hq hm => by rw [eg] at hq; cases hq; simp at hm; omega)).ls
  · exact (hh.stp hw.stp (fun q hq hm => by rw [eh] at hq; cases hq; simp at hm; omega)).ls
def ann13 : Ann := ⟨[], [60], 70, [(61, false)], [], none, [], []⟩
def kb13_0 (b0 b1 : Nat) (x2 : Value) : List KB := [⟨b0, true, 27, (aggArr x2)⟩, ⟨b1, true, 65, #[(J 0), (J 0), (J 0), (J 0), (J 0), (J 0), (J 0), (J 0), (J 0), (J 0), (J 0), (J 0), (J 0), (J 0), (J 0), (J 0), (J 0), (J 0), (J 0), (J 0), (J 0), (J 0), (U 0), (U 0), (U 0), (U 0), (.slice none 0 0), (J 0), (J 0), (J 0), (J 0), (J 0), (J 0), (J 0), (J 0), (J 0), (J 0), (J 0), (J 0), (J 0), (J 0), (J 0), (J 0), (J 0), (J 0), (J 0), (J 0), (J 0), (U 0), (U 0), (U 0), (U 0), (.slice none 0 0), (J 0), (J 0), (J 0), (J 0), (J 0), (J 0), (J 0), (J 0), (J 0), (J 0), (J 0), (J 0), (J 0), (J 0), (J 0), (J 0), (J 0), (J 0), (J 0), (J 0), (J 0), (U 0), (U 0), (U 0), (U 0), (.slice none 0 0), (.slice none 0 0), (.slice none 0 0)]⟩]
theorem vc13 (X : Ctx) (β : Nat → Nat) (x0 : Value) : (run Tryz.prog ann13 13 [.x (.v 0)] [] [] 2).den X (env0 [x0] X.w0) 2 β 0 (fun _ _ _ => False) = (
 Ask (rAgg 67 x0) fun x2 =>
 AskNew X.w0 fun b0 =>
 AskNew X.w0 fun b1 =>
 Ask (rSel (aggArr x2) 2 4 true) fun x3 =>
 AskF X 60 [x3] fun x4 =>
 Ask (rSel (aggArr x2) 6 4 true) fun x5 =>
 AskF X 60 [x5] fun x6 =>
 Ask (rSel (aggArr x2) 10 4 true) fun x7 =>
 AskF X 60 [x7] fun x8 =>
 Ask (rSel (aggArr x2) 14 1 false) fun x9 =>
 AskW X X.w0 [] (kb13_0 b0 b1 x2) false 61 [x9] fun x10 w10 =>
 Ask (rSel (aggArr x2) 15 1 false) fun x11 =>
 AskW X w10 [] (kb13_0 b0 b1 x2) false 61 [x11] fun x12 w12 =>
 Ask (rBld X.P 65 #[(0, (J 2)), (1, x4), (2, x6), (3, x8), (4, x10), (5, x12)]) fun x13 =>
 Ask (rAgg 81 x13) fun x14 =>
 Ret X w12 [b1] [] x14) := by kernel_rfl
def cDSt : Contract := fnW cCs (fun _ _ => True) (fun d _ v w' => cRSetF.rd w' v (rF d.B, rF d.Bl, rF d.Q, (cut d.G).map rF, (cut d.H).map rF))
theorem lsR {w : World} {b s e : Nat} {v : Value} {α : Type} {enc : α → List Value} {l : List Nat} {f : Nat → α} (h : w.ownsRow b e s v l.length ((l.map f).flatMap enc)) : Ls enc (fun _ => True) w v (l.map f) := ⟨by rw [List.length_map]; exact own_slAt h, fun _ _ => trivial⟩
theorem keepsDSt : Keeps1 Tryz.prog GT 13 cDSt := by
  refine keepsW (T := Tca) (A := ann13) hMix keepTca hGT (calls_of (by kernel_rfl)) (callsW_of (by kernel_rfl)) fun args d w0 hrd hpre hg => ?_
  obtain ⟨g, h, v, bl, c, sl, sr, l, r, rfl, ok, at0⟩ := hrd
  refine ⟨[.x (.v 0)], [], [], 2, env0 [.agg (csL d g h v bl c sl sr l r).toArray] w0, fun b => b, 0, rfl, rfl, fun X hX => mem_none hX rfl, fun X hP hS hw hX hR => ?_⟩
  subst hw; try dsimp only at hR
  rw [vc13 X]
  refine a_agg (csL_len _ _ _ _ _ _ _ _ _ _) at0.one ?_
  intro b0 hb0 b1 hb1
  refine a_selL (ds := encS d.B) (by kernel_rfl) (by rw [csL_len]; omega) ?_
  refine c_DLine hS ok.B ?_
  refine a_selL (ds := encS d.Bl) (by kernel_rfl) (by rw [csL_len]; omega) ?_
  refine c_DLine hS ok.Bl ?_
  refine a_selL (ds := encS d.Q) (by kernel_rfl) (by rw [csL_len]; omega) ?_
  refine c_DLine hS ok.Q ?_
  refine a_sel1 (v := g) (by kernel_rfl) ?_
  refine call_W hX hS (T := Tca) (f := 61) rfl (d.G, ()) (fun w hw => ⟨⟨_, _, rfl, (at0.stp0 hw.stp).g, rfl⟩, trivial⟩) fun g' w1 w2 h1 k2 s2 su2 hg => ?_
  refine a_sel1 (v := h) (by kernel_rfl) ?_
  refine call_W hX hS (T := Tca) (f := 61) rfl (d.H, ()) (fun w hw => ⟨⟨_, _, rfl, (at0.stp0 (su2.trans0 hw.stp)).h, rfl⟩, trivial⟩) fun h' w3 w4 h3 k4 s4 su4 hh => ?_
  dsimp only at hg hh
  have lo1 : b1 < w1.heap.size := h1.low (by simp [kb13_0])
  have lo3 : b1 < w3.heap.size := h3.low (by simp [kb13_0])
  obtain ⟨ga, gc, rfl, _⟩ := slAt_form (own_slAt hg)
  obtain ⟨ha, hc, rfl, _⟩ := slAt_form (own_slAt hh)
  refine a_bld (rsetL (rF d.B, rF d.Bl, rF d.Q, (cut d.G).map rF, (cut d.H).map rF) (.slice ga (cut d.G).length gc) (.slice ha (cut d.H).length hc)).toArray hP (by kernel_rfl) ?_
  refine a_agg (rsetL_len (rF d.B, rF d.Bl, rF d.Q, (cut d.G).map rF, (cut d.H).map rF) (.slice ga (cut d.G).length gc) (.slice ha (cut d.H).length hc)) (rsetL_one (own_one hg) (own_one hh)) ?_
  refine hR _ _ _ _ fun w hw => ⟨_, _, rfl, ?_, ?_⟩
  · exact lsR (own_stp (own_stp0 hg su4) hw.stp (off_own hg (all1 lo1)))
  · exact lsR (own_stp hh hw.stp (off_own hh (all1 lo3)))
end Go.Vc
