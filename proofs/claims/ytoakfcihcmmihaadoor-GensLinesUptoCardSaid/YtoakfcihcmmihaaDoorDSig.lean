/-
  Claims over the scalars (sigma.Key, Opening, Equal and the document's): contracts.
-/
import Derived.Test.YtoakfcihcmmihaaDoorDRef2
import Derived.Test.YtoakfcihcmmihaaDoorDLeast
namespace Go.Vc
open Go Go.Proofs Go.RowKit

theorem Keeps1.imp {P : Program} {G : World → Prop} {f : Nat} {c d : Contract} (h : Keeps1 P G f c) (hp : ∀ args, d.pre args → c.pre args ∧ ∀ v, c.post args v → d.post args v) (hW : ∀ args w, ¬ d.preW args w) : Keeps1 P G f d :=
  ⟨fun args w hd hg => (h.calls args w (hp args hd).1 hg).mono fun _ _ ⟨v, he, hq, hb⟩ => ⟨v, he, (hp args hd).2 v hq, hb⟩, fun args w hd _ => absurd hd (hW args w)⟩
theorem S_L4 (n : Nat) : S n = L4 (lb n 0) (lb n 1) (lb n 2) (lb n 3) := rfl
theorem lim_lb (n : Nat) : lim (lb n 0) (lb n 1) (lb n 2) (lb n 3) := ⟨lb_lt _ _, lb_lt _ _, lb_lt _ _, lb_lt _ _⟩
theorem lm_lt (n : Nat) : n % lN < W256 := Nat.lt_trans (Nat.mod_lt _ (by decide)) lN_lt

/-- The least scalar, by numbers. -/
def cLeastS : Contract := fnP enc1 (· < W256) (fun n v => v = S (n % lN))
theorem keepsLeast : Keeps1 Tryd.prog GT 35 cLeastS := keeps35.imp (fun args ⟨n, hn, ha⟩ => ⟨⟨_, _, _, _, ha, lim_lb n⟩, fun v hv m hm hm' => by
    obtain rfl := inj1 m n hm hn (hm'.symm.trans ha)
    obtain ⟨d0, d1, d2, d3, rfl, ⟨q0, q1, q2, q3⟩, hN⟩ := hv _ _ _ _ ha
    replace hN : d0 + B64 * d1 + B64 ^ 2 * d2 + B64 ^ 3 * d3 = (lb m 0 + B64 * lb m 1 + B64 ^ 2 * lb m 2 + B64 ^ 3 * lb m 3) % lN := hN
    rw [limbs_sum m hn] at hN
    show Value.agg #[U d0, U d1, U d2, U d3] = _
    rw [S_of q0 q1 q2 q3]
    exact congrArg S hN⟩) (fun _ _ h => h)

def ann9 : Ann := ⟨[], [], 70, [], [1], none, [], []⟩
theorem vc9 (X : Ctx) (β : Nat → Nat) (x0 : Value) : (run Tryd.prog ann9 9 [.x (.v 0)] [] [] 2).den X (env0 [x0] X.w0) 2 β 0 (fun _ _ _ => False) = (
  Ask (rAgg 4 x0) fun x2 =>
  AskNew X.w0 fun _ =>
  AskNew X.w0 fun b1 =>
  Ask (rAgg 4 x2) fun x3 =>
  Ask (rSel (aggArr x3) 0 1 false) fun x4 =>
  Ask (rSel (aggArr x3) 1 1 false) fun x5 =>
  Ask (rSel (aggArr x3) 2 1 false) fun x6 =>
  Ask (rSel (aggArr x3) 3 1 false) fun x7 =>
  Ask (rPlain x4) fun x8 =>
  Ask (rPlain x5) fun x9 =>
  Ask (rPlain x6) fun x10 =>
  Ask (rPlain x7) fun x11 =>
  Ret X X.w0 [b1] [] (.agg #[(J 2), (J 0), (J 0), (J 0), (J 0), (J 0), (J 0), (J 0), (J 0), (J 0), (J 0), (J 0), (J 0), (J 0), (J 0), (J 0), (J 0), (J 0), (J 0), (J 0), (J 0), x8, x9, x10, x11, (.slice none 0 0)])) := by kernel_rfl
def cLineOfS : Contract := fnP enc1 (· < W256) (fun n v => v = E n)
theorem keepsLineOf : Keeps1 Tryd.prog GT 9 cLineOfS := by
  refine keepsP (T := T0) (A := ann9) inj1 hMix keepT0 hGT (fun f hf => by cases hf) (fun f hf => by cases hf) fun n w0 hn _ => ⟨[.x (.v 0)], [], [], 2, env0 [S n] w0, fun b => b, 0, rfl, rfl, fun X hX => mem_none hX rfl, fun X hP hS hw hX hR => ?_⟩
  subst hw
  rw [vc9 X]
  rw [ask_aggS]; intro _ _ _ _
  rw [ask_aggS, ask_selS0, ask_selS1, ask_selS2, ask_selS3, ask_uplain, ask_uplain, ask_uplain, ask_uplain]
  exact hR _ _ _ _ rfl

def ann10 : Ann := ⟨[], [55], 70, [], [1, 2], none, [], []⟩
theorem vc10 (X : Ctx) (β : Nat → Nat) (x0 : Value) : (run Tryd.prog ann10 10 [.x (.v 0)] [] [] 2).den X (env0 [x0] X.w0) 2 β 0 (fun _ _ _ => False) = (
  Ask (rAgg 4 x0) fun x2 =>
  AskNew X.w0 fun _ =>
  Ask (rAgg 4 (.agg #[(U 0), (U 0), (U 0), (U 0)])) fun _ =>
  AskNew X.w0 fun b1 =>
  AskF X 55 [x2] fun x4 =>
  Ask (rAgg 4 x4) fun x5 =>
  Ret X X.w0 [b1] [] x5) := by kernel_rfl
def Tn : Table := T0.add 55 cRleast
theorem keepTn : AllKeep Tryd.prog GT Tn := keepT0.add keepsRleast
theorem keepsNum11 : Keeps1 Tryd.prog GT 10 cRleast := by
  refine keepsP (T := Tn) (A := ann10) inj1 hMix keepTn hGT (fun f hf => by
      simp only [ann10, List.mem_cons, List.not_mem_nil, or_false] at hf
      subst hf; intros; kernel_rfl) (fun f hf => by cases hf) fun n w0 hn _ => ⟨[.x (.v 0)], [], [], 2, env0 [S n] w0, fun b => b, 0, rfl, rfl, fun X hX => mem_none hX rfl, fun X hP hS hw hX hR => ?_⟩
  subst hw
  rw [vc10 X]
  rw [ask_aggS]; intro _ _
  rw [ask_zero4]; intro _ _
  refine call_PE hS (T := Tn) (f := 55) rfl n hn ?_
  rw [ask_aggS]
  exact hR _ _ _ _ rfl

/-! ### claims -/
theorem tyL : ElTy Tryd.prog 27 26 4 32 (.agg #[U 0, U 0, U 0, U 0]) := ⟨by kernel_rfl, by kernel_rfl⟩
theorem tyLL : ElTy Tryd.prog 46 27 1 24 (.slice none 0 0) := ⟨by kernel_rfl, by kernel_rfl⟩
theorem tyE : ElTy Tryd.prog 42 39 26 224 (.agg #[J 0, J 0, J 0, J 0, J 0, J 0, J 0, J 0, J 0, J 0, J 0, J 0, J 0, J 0, J 0, J 0, J 0, J 0, J 0, J 0, J 0, U 0, U 0, U 0, U 0, .slice none 0 0]) := ⟨by kernel_rfl, by kernel_rfl⟩
theorem tyEE : ElTy Tryd.prog 50 42 1 24 (.slice none 0 0) := ⟨by kernel_rfl, by kernel_rfl⟩

def cClaim : Cod (List (List Nat) × List Nat) := cP (cLL cLS) cLS
/-- The document's claim over the scalars: its kind, its lists. -/
def cRClaim : Cod (List (List Nat) × List Nat) := ⟨fun w v p => ∃ x y, v = .agg #[J 2, x, y] ∧ (cLL cLE).rd w x p.1 ∧ cLE.rd w y p.2, fun w v p q ⟨x, y, h1, h2, h3⟩ ⟨x', y', k1, k2, k3⟩ => by
  rw [h1] at k1; cases k1
  exact Prod.ext ((cLL cLE).inj _ _ _ _ h2 k2) (cLE.inj _ _ _ _ h3 k3)⟩
theorem cLS_stable : cLS.Stable := cL_stable
theorem cLE_stable : cLE.Stable := cL_stable
theorem cClaim_stable : cClaim.Stable := cP_stable (cLL_stable cLS_stable) cLS_stable
theorem cRClaim_stable : cRClaim.Stable := fun _ _ _ _ hs ⟨x, y, h1, h2, h3⟩ => ⟨x, y, h1, cLL_stable cLE_stable _ _ _ _ hs h2, cLE_stable _ _ _ _ hs h3⟩

def ann12 : Ann := ⟨[], [], 70, [], [2, 3], none, [], []⟩
def kb12_0 (b0 b1 b2 : Nat) (x3 x4 : Value) : List KB := [⟨b0, true, 26, (aggArr x3)⟩, ⟨b1, true, 26, (aggArr x4)⟩, ⟨b2, true, 48, #[(.slice none 0 0), (.slice none 0 0)]⟩]
theorem vc12 (X : Ctx) (β : Nat → Nat) (x0 x1 : Value) : (run Tryd.prog ann12 12 [.x (.v 0), .x (.v 1)] [] [] 3).den X (env0 [x0, x1] X.w0) 3 β 0 (fun _ _ _ => False) = (
  Ask (rAgg 4 x0) fun x3 =>
  AskNew X.w0 fun b0 =>
  Ask (rAgg 4 x1) fun x4 =>
  AskNew X.w0 fun b1 =>
  AskNew X.w0 fun b2 =>
  AskO X X.w0 [] (kb12_0 b0 b1 b2 x3 x4) false (Go.Op.buildSlice 27 1 #[(0, Go.Operand.tmp 5)]) 27 [(5, x3)] fun x5 w5 =>
  AskO X w5 [] (kb12_0 b0 b1 b2 x3 x4) false (Go.Op.buildSlice 46 1 #[(0, Go.Operand.tmp 6)]) 46 [(6, x5)] fun x6 w6 =>
  AskO X w6 [] (kb12_0 b0 b1 b2 x3 x4) false (Go.Op.buildSlice 27 1 #[(0, Go.Operand.tmp 8)]) 27 [(8, x4)] fun x7 w7 =>
  Ask (rPlain x6) fun x8 =>
  Ask (rPlain x7) fun x9 =>
  Ask (rPlain x8) fun x10 =>
  Ask (rPlain x9) fun x11 =>
  Ret X w7 [b2] [] (.agg #[x10, x11])) := by kernel_rfl
def cKey : Contract := fnW (Cods.cons cS (Cods.cons cS Cods.nil)) (fun _ _ => True) (fun p _ v w' => cClaim.rd w' v ([[p.1]], [p.2.1]))
theorem keepsKey : Keeps1 Tryd.prog GT 12 cKey := by
  refine keepsW (T := T0) (A := ann12) hMix keepT0 hGT (fun f hf => by cases hf) (fun f hf => by cases hf) fun args ⟨x, y, _⟩ w0 hrd _ _ => ?_
  obtain ⟨_, _, rfl, ⟨rfl, hx⟩, _, _, rfl, ⟨rfl, hy⟩, rfl⟩ := hrd
  refine ⟨[.x (.v 0), .x (.v 1)], [], [], 3, env0 [S x, S y] w0, fun b => b, 0, rfl, rfl, fun X hX => mem_none hX rfl, fun X hP hS hw hX hR => ?_⟩
  subst hw; dsimp only at hR hx hy
  rw [vc12 X]
  rw [ask_aggS]; intro _ _; rw [ask_aggS]; intro _ _ b2 _
  refine a_build (encS x).toArray hX hP tyL (by decide) (by decide) (by kernel_rfl) rfl (by decide) fun g1 _ u1 h1 k1 _ s1 o1 => ?_
  refine a_build #[.slice (some ⟨g1, 0, none⟩) 1 1] hX hP tyLL (by decide) (by decide) (by kernel_rfl) rfl (by decide) fun g2 _ u2 h2 k2 _ s2 o2 => ?_
  refine a_build (encS y).toArray hX hP tyL (by decide) (by decide) (by kernel_rfl) rfl (by decide) fun g3 _ u3 h3 k3 _ s3 o3 => ?_
  iterate 4 refine a_plain rfl ?_
  refine hR _ _ _ _ fun w hw => ?_
  have m : ∀ {a c d : Nat} {v v' : Value}, d ∈ (kb12_0 a c d v v').map (·.b) := by simp [kb12_0]
  exact ⟨_, _, rfl, LLs1 (own_at (own_stp0 o2 s3) (all1 (h2.low m)) hw.stp) ⟨own_at (own_stp0 o1 (s2.trans0 s3)) (all1 (h1.low m)) hw.stp, all1 hx⟩, own_at o3 (all1 (h3.low m)) hw.stp, all1 hy⟩

def ann13 : Ann := ⟨[], [], 70, [], [], none, [], []⟩
def kb13_0 (b0 b1 b2 : Nat) (x3 x4 : Value) : List KB := [⟨b0, true, 39, (aggArr x3)⟩, ⟨b1, true, 39, (aggArr x4)⟩, ⟨b2, true, 52, #[(J 0), (.slice none 0 0), (.slice none 0 0)]⟩]
theorem vc13 (X : Ctx) (β : Nat → Nat) (x0 x1 : Value) : (run Tryd.prog ann13 13 [.x (.v 0), .x (.v 1)] [] [] 3).den X (env0 [x0, x1] X.w0) 3 β 0 (fun _ _ _ => False) = (
  Ask (rAgg 26 x0) fun x3 =>
  AskNew X.w0 fun b0 =>
  Ask (rAgg 26 x1) fun x4 =>
  AskNew X.w0 fun b1 =>
  AskNew X.w0 fun b2 =>
  Ask (rSel (aggArr x3) 0 1 false) fun x5 =>
  AskO X X.w0 [] (kb13_0 b0 b1 b2 x3 x4) false (Go.Op.buildSlice 42 1 #[(0, Go.Operand.tmp 7)]) 42 [(7, x3)] fun x6 w6 =>
  AskO X w6 [] (kb13_0 b0 b1 b2 x3 x4) false (Go.Op.buildSlice 50 1 #[(0, Go.Operand.tmp 8)]) 50 [(8, x6)] fun x7 w7 =>
  AskO X w7 [] (kb13_0 b0 b1 b2 x3 x4) false (Go.Op.buildSlice 42 1 #[(0, Go.Operand.tmp 10)]) 42 [(10, x4)] fun x8 w8 =>
  Ask (rPlain x5) fun x9 =>
  Ask (rPlain x7) fun x10 =>
  Ask (rPlain x8) fun x11 =>
  Ask (rPlain x9) fun x12 =>
  Ask (rPlain x10) fun x13 =>
  Ask (rPlain x11) fun x14 =>
  Ret X w8 [b2] [] (.agg #[x12, x13, x14])) := by kernel_rfl
theorem ask_aggE {K : Value → Prop} {n : Nat} : Ask (rAgg 26 (E n)) K = K (E n) := ask_agg rfl (by simp [encE, U, Value.oneCell'])
def cRKey : Contract := fnW (Cods.cons cE (Cods.cons cE Cods.nil)) (fun _ _ => True) (fun p _ v w' => cRClaim.rd w' v ([[p.1]], [p.2.1]))
theorem keepsRKey : Keeps1 Tryd.prog GT 13 cRKey := by
  refine keepsW (T := T0) (A := ann13) hMix keepT0 hGT (fun f hf => by cases hf) (fun f hf => by cases hf) fun args ⟨x, y, _⟩ w0 hrd _ _ => ?_
  obtain ⟨_, _, rfl, ⟨rfl, hx⟩, _, _, rfl, ⟨rfl, hy⟩, rfl⟩ := hrd
  refine ⟨[.x (.v 0), .x (.v 1)], [], [], 3, env0 [E x, E y] w0, fun b => b, 0, rfl, rfl, fun X hX => mem_none hX rfl, fun X hP hS hw hX hR => ?_⟩
  subst hw; dsimp only at hR hx hy
  rw [vc13 X]
  rw [ask_aggE]; intro _ _; rw [ask_aggE]; intro _ _ b2 _
  refine a_sel1 rfl ?_
  refine a_build (encE x).toArray hX hP tyE (by decide) (by decide) (by kernel_rfl) rfl (by decide) fun g1 _ u1 h1 k1 _ s1 o1 => ?_
  refine a_build #[.slice (some ⟨g1, 0, none⟩) 1 1] hX hP tyEE (by decide) (by decide) (by kernel_rfl) rfl (by decide) fun g2 _ u2 h2 k2 _ s2 o2 => ?_
  refine a_build (encE y).toArray hX hP tyE (by decide) (by decide) (by kernel_rfl) rfl (by decide) fun g3 _ u3 h3 k3 _ s3 o3 => ?_
  iterate 6 refine a_plain rfl ?_
  refine hR _ _ _ _ fun w hw => ?_
  have m : ∀ {a c d : Nat} {v v' : Value}, d ∈ (kb13_0 a c d v v').map (·.b) := by simp [kb13_0]
  exact ⟨_, _, rfl, LLs1 (own_at (own_stp0 o2 s3) (all1 (h2.low m)) hw.stp) ⟨own_at (own_stp0 o1 (s2.trans0 s3)) (all1 (h1.low m)) hw.stp, all1 hx⟩, own_at o3 (all1 (h3.low m)) hw.stp, all1 hy⟩

/-! ### sets -/
def zE : List Value := [J 0, J 0, J 0, J 0, J 0, J 0, J 0, J 0, J 0, J 0, J 0, J 0, J 0, J 0, J 0, J 0, J 0, J 0, J 0, J 0, J 0, U 0, U 0, U 0, U 0, .slice none 0 0]
theorem one_zE : zE.all (·.oneCell') = true := by simp [zE, U, Value.oneCell']
def SetV (b bl q : Nat) (g h : Value) : Value := .agg (encS b ++ encS bl ++ encS q ++ [g, h]).toArray
def RSetV (b bl : Nat) (q : List Value) (g h : Value) : Value := .agg ([J 2] ++ encE b ++ encE bl ++ q ++ [g, h]).toArray
def cSet : Cod (Nat × Nat × Nat × Value × Value) := ⟨fun _ v p => v = SetV p.1 p.2.1 p.2.2.1 p.2.2.2.1 p.2.2.2.2 ∧ okS p.1 ∧ okS p.2.1 ∧ okS p.2.2.1 ∧ p.2.2.2.1.oneCell' = true ∧ p.2.2.2.2.oneCell' = true, fun _ _ ⟨b, bl, q, g, h⟩ ⟨b', bl', q', g', h'⟩ ⟨e, o1, o2, o3, _⟩ ⟨e', o1', o2', o3', _⟩ => by
  dsimp only at e e' o1 o2 o3 o1' o2' o3'
  rw [e] at e'
  simp only [SetV, Value.agg.injEq, List.append_assoc] at e'
  have e' := congrArg Array.toList e'
  simp only at e'
  obtain ⟨e1, e'⟩ := List.append_inj e' rfl
  obtain ⟨e2, e'⟩ := List.append_inj e' rfl
  obtain ⟨e3, e'⟩ := List.append_inj e' rfl
  simp only [List.cons.injEq, and_true] at e'
  rw [encS_inj o1 o1' e1, encS_inj o2 o2' e2, encS_inj o3 o3' e3, e'.1, e'.2]⟩
def cRSet : Cod (Nat × Nat × List Value × Value × Value) := ⟨fun _ v p => v = RSetV p.1 p.2.1 p.2.2.1 p.2.2.2.1 p.2.2.2.2 ∧ okS p.1 ∧ okS p.2.1 ∧ p.2.2.1.length = 26 ∧ p.2.2.1.all (·.oneCell') = true ∧ p.2.2.2.1.oneCell' = true ∧ p.2.2.2.2.oneCell' = true, fun _ _ ⟨b, bl, q, g, h⟩ ⟨b', bl', q', g', h'⟩ ⟨e, o1, o2, o3, _⟩ ⟨e', o1', o2', o3', _⟩ => by
  dsimp only at e e' o1 o2 o3 o1' o2' o3'
  rw [e] at e'
  simp only [RSetV, Value.agg.injEq, List.append_assoc] at e'
  have e' := congrArg Array.toList e'
  simp only at e'
  obtain ⟨_, e'⟩ := List.append_inj e' rfl
  obtain ⟨e1, e'⟩ := List.append_inj e' rfl
  obtain ⟨e2, e'⟩ := List.append_inj e' rfl
  obtain ⟨e3, e'⟩ := List.append_inj e' (o3.trans o3'.symm)
  simp only [List.cons.injEq, and_true] at e'
  rw [encE_inj o1 o1' e1, encE_inj o2 o2' e2, e3, e'.1, e'.2]⟩
theorem oneJ2 : (J 2).oneCell' = true := rfl
theorem one_encS (n : Nat) : (encS n).all (·.oneCell') = true := by simp [encS, U, Value.oneCell']
theorem one_encE (n : Nat) : (encE n).all (·.oneCell') = true := by simp [encE, U, Value.oneCell']

def ann14 : Ann := ⟨[], [], 70, [], [3], none, [], []⟩
def kb14_0 (b0 b1 b2 : Nat) (x4 x5 x6 x7 x8 x9 x10 x11 x12 x13 x14 x15 x16 x17 x18 : Value) : List KB := [⟨b0, true, 29, #[x4, x5, x6, x7, x8, x9, x10, x11, x12, x13, x14, x15, x16, x17]⟩, ⟨b1, true, 26, (aggArr x18)⟩, ⟨b2, true, 48, #[(.slice none 0 0), (.slice none 0 0)]⟩]
theorem vc14 (X : Ctx) (β : Nat → Nat) (x0 x1 : Value) : (run Tryd.prog ann14 14 [.x (.v 0), .x (.v 1)] [] [] 3).den X (env0 [x0, x1] X.w0) 3 β 0 (fun _ _ _ => False) = (
  Ask (rAgg 14 x0) fun x3 =>
  Ask (rSel (aggArr x3) 0 1 false) fun x4 =>
  Ask (rSel (aggArr x3) 1 1 false) fun x5 =>
  Ask (rSel (aggArr x3) 2 1 false) fun x6 =>
  Ask (rSel (aggArr x3) 3 1 false) fun x7 =>
  Ask (rSel (aggArr x3) 4 1 false) fun x8 =>
  Ask (rSel (aggArr x3) 5 1 false) fun x9 =>
  Ask (rSel (aggArr x3) 6 1 false) fun x10 =>
  Ask (rSel (aggArr x3) 7 1 false) fun x11 =>
  Ask (rSel (aggArr x3) 8 1 false) fun x12 =>
  Ask (rSel (aggArr x3) 9 1 false) fun x13 =>
  Ask (rSel (aggArr x3) 10 1 false) fun x14 =>
  Ask (rSel (aggArr x3) 11 1 false) fun x15 =>
  Ask (rSel (aggArr x3) 12 1 false) fun x16 =>
  Ask (rSel (aggArr x3) 13 1 false) fun x17 =>
  AskNew X.w0 fun b0 =>
  Ask (rAgg 4 x1) fun x18 =>
  AskNew X.w0 fun b1 =>
  AskNew X.w0 fun b2 =>
  AskO X X.w0 [] (kb14_0 b0 b1 b2 x4 x5 x6 x7 x8 x9 x10 x11 x12 x13 x14 x15 x16 x17 x18) false (Go.Op.buildSlice 27 2 #[(0, Go.Operand.tmp 6), (1, Go.Operand.tmp 8)]) 27 [(6, (.agg #[x4, x5, x6, x7])), (8, (.agg #[x8, x9, x10, x11]))] fun x19 w19 =>
  AskO X w19 [] (kb14_0 b0 b1 b2 x4 x5 x6 x7 x8 x9 x10 x11 x12 x13 x14 x15 x16 x17 x18) false (Go.Op.buildSlice 46 1 #[(0, Go.Operand.tmp 9)]) 46 [(9, x19)] fun x20 w20 =>
  AskO X w20 [] (kb14_0 b0 b1 b2 x4 x5 x6 x7 x8 x9 x10 x11 x12 x13 x14 x15 x16 x17 x18) false (Go.Op.buildSlice 27 1 #[(0, Go.Operand.tmp 11)]) 27 [(11, x18)] fun x21 w21 =>
  Ask (rPlain x20) fun x22 =>
  Ask (rPlain x21) fun x23 =>
  Ask (rPlain x22) fun x24 =>
  Ask (rPlain x23) fun x25 =>
  Ret X w21 [b2] [] (.agg #[x24, x25])) := by kernel_rfl
def cOpening : Contract := fnW (Cods.cons cSet (Cods.cons cS Cods.nil)) (fun _ _ => True) (fun p _ v w' => cClaim.rd w' v ([[p.1.1, p.1.2.1]], [p.2.1]))
theorem keepsOpening : Keeps1 Tryd.prog GT 14 cOpening := by
  refine keepsW (T := T0) (A := ann14) hMix keepT0 hGT (fun f hf => by cases hf) (fun f hf => by cases hf) fun args ⟨⟨b, bl, q, g, h⟩, y, _⟩ w0 hrd _ _ => ?_
  obtain ⟨_, _, rfl, ⟨rfl, ob, obl, oq, og, oh⟩, _, _, rfl, ⟨rfl, hy⟩, rfl⟩ := hrd
  dsimp only at ob obl oq og oh hy
  refine ⟨[.x (.v 0), .x (.v 1)], [], [], 3, env0 [SetV b bl q g h, S y] w0, fun b => b, 0, rfl, rfl, fun X hX => mem_none hX rfl, fun X hP hS hw hX hR => ?_⟩
  subst hw; dsimp only at hR
  rw [vc14 X]
  refine a_agg rfl (by simp [one_encS, og, oh]) ?_
  iterate 14 refine a_sel1 rfl ?_
  intro _ _; rw [ask_aggS]; intro _ _ b2 _
  refine a_build (encS b ++ encS bl).toArray hX hP tyL (by decide) (by decide) (by kernel_rfl) rfl (by decide) fun g1 _ u1 h1 k1 _ s1 o1 => ?_
  refine a_build #[.slice (some ⟨g1, 0, none⟩) 2 2] hX hP tyLL (by decide) (by decide) (by kernel_rfl) rfl (by decide) fun g2 _ u2 h2 k2 _ s2 o2 => ?_
  refine a_build (encS y).toArray hX hP tyL (by decide) (by decide) (by kernel_rfl) rfl (by decide) fun g3 _ u3 h3 k3 _ s3 o3 => ?_
  iterate 4 refine a_plain rfl ?_
  refine hR _ _ _ _ fun w hw => ?_
  exact ⟨_, _, rfl, LLs1 (own_at (own_stp0 o2 s3) (all1 (h2.low (by simp [kb14_0]))) hw.stp) ⟨own_at (own_stp0 o1 (s2.trans0 s3)) (all1 (h1.low (by simp [kb14_0]))) hw.stp, fun n hn => by
    simp only [List.mem_cons, List.not_mem_nil, or_false] at hn; rcases hn with rfl | rfl <;> assumption⟩, own_at o3 (all1 (h3.low (by simp [kb14_0]))) hw.stp, all1 hy⟩

def ann15 : Ann := ⟨[], [], 70, [], [], none, [], []⟩
def kb15_0 (b0 b1 b2 : Nat) (x3 x4 : Value) : List KB := [⟨b0, true, 44, (aggArr x3)⟩, ⟨b1, true, 39, (aggArr x4)⟩, ⟨b2, true, 52, #[(J 0), (.slice none 0 0), (.slice none 0 0)]⟩]
theorem vc15 (X : Ctx) (β : Nat → Nat) (x0 x1 : Value) : (run Tryd.prog ann15 15 [.x (.v 0), .x (.v 1)] [] [] 3).den X (env0 [x0, x1] X.w0) 3 β 0 (fun _ _ _ => False) = (
  Ask (rAgg 81 x0) fun x3 =>
  AskNew X.w0 fun b0 =>
  Ask (rAgg 26 x1) fun x4 =>
  AskNew X.w0 fun b1 =>
  AskNew X.w0 fun b2 =>
  Ask (rSel (aggArr x3) 0 1 false) fun x5 =>
  Ask (rSel (aggArr x3) 1 26 true) fun x6 =>
  Ask (rSel (aggArr x3) 27 26 true) fun x7 =>
  AskO X X.w0 [] (kb15_0 b0 b1 b2 x3 x4) false (Go.Op.buildSlice 42 2 #[(0, Go.Operand.tmp 8), (1, Go.Operand.tmp 10)]) 42 [(8, x6), (10, x7)] fun x8 w8 =>
  AskO X w8 [] (kb15_0 b0 b1 b2 x3 x4) false (Go.Op.buildSlice 50 1 #[(0, Go.Operand.tmp 11)]) 50 [(11, x8)] fun x9 w9 =>
  AskO X w9 [] (kb15_0 b0 b1 b2 x3 x4) false (Go.Op.buildSlice 42 1 #[(0, Go.Operand.tmp 13)]) 42 [(13, x4)] fun x10 w10 =>
  Ask (rPlain x5) fun x11 =>
  Ask (rPlain x9) fun x12 =>
  Ask (rPlain x10) fun x13 =>
  Ask (rPlain x11) fun x14 =>
  Ask (rPlain x12) fun x15 =>
  Ask (rPlain x13) fun x16 =>
  Ret X w10 [b2] [] (.agg #[x14, x15, x16])) := by kernel_rfl
def cROpening : Contract := fnW (Cods.cons cRSet (Cods.cons cE Cods.nil)) (fun _ _ => True) (fun p _ v w' => cRClaim.rd w' v ([[p.1.1, p.1.2.1]], [p.2.1]))
theorem take_app {a b : List Value} {n : Nat} (h : a.length = n) : (a ++ b).take n = a := by rw [← h]; simp
theorem keepsROpening : Keeps1 Tryd.prog GT 15 cROpening := by
  refine keepsW (T := T0) (A := ann15) hMix keepT0 hGT (fun f hf => by cases hf) (fun f hf => by cases hf) fun args ⟨⟨b, bl, q, g, h⟩, y, _⟩ w0 hrd _ _ => ?_
  obtain ⟨_, _, rfl, ⟨rfl, ob, obl, oq, oq2, og, oh⟩, _, _, rfl, ⟨rfl, hy⟩, rfl⟩ := hrd
  dsimp only at ob obl oq oq2 og oh hy
  refine ⟨[.x (.v 0), .x (.v 1)], [], [], 3, env0 [RSetV b bl q g h, E y] w0, fun b => b, 0, rfl, rfl, fun X hX => mem_none hX rfl, fun X hP hS hw hX hR => ?_⟩
  subst hw; dsimp only at hR
  rw [vc15 X]
  refine a_agg (by simp [oq, encE_len]) (by simp only [List.all_append, List.all_cons, List.all_nil, one_encE, oq2, og, oh, oneJ2, Bool.and_true]) ?_
  intro _ _; rw [ask_aggE]; intro _ _ b2 _
  refine a_sel1 rfl ?_
  refine a_selL (ds := encE b) rfl (by simp [oq, encE_len]) ?_
  refine a_selL (ds := encE bl) rfl (by simp [oq, encE_len]) ?_
  refine a_build (encE b ++ encE bl).toArray hX hP tyE (by decide) (by decide) (by kernel_rfl) rfl (by decide) fun g1 _ u1 h1 k1 _ s1 o1 => ?_
  refine a_build #[.slice (some ⟨g1, 0, none⟩) 2 2] hX hP tyEE (by decide) (by decide) (by kernel_rfl) rfl (by decide) fun g2 _ u2 h2 k2 _ s2 o2 => ?_
  refine a_build (encE y).toArray hX hP tyE (by decide) (by decide) (by kernel_rfl) rfl (by decide) fun g3 _ u3 h3 k3 _ s3 o3 => ?_
  iterate 6 refine a_plain rfl ?_
  refine hR _ _ _ _ fun w hw => ?_
  exact ⟨_, _, rfl, LLs1 (own_at (own_stp0 o2 s3) (all1 (h2.low (by simp [kb15_0]))) hw.stp) ⟨own_at (own_stp0 o1 (s2.trans0 s3)) (all1 (h1.low (by simp [kb15_0]))) hw.stp, fun n hn => by
    simp only [List.mem_cons, List.not_mem_nil, or_false] at hn; rcases hn with rfl | rfl <;> assumption⟩, own_at o3 (all1 (h3.low (by simp [kb15_0]))) hw.stp, all1 hy⟩

def ann57 : Ann := ⟨[], [], 70, [], [], none, [], []⟩
theorem vc57 (X : Ctx) (β : Nat → Nat) (x0 : Value) : (run Tryd.prog ann57 57 [.x (.v 0)] [] [] 2).den X (env0 [x0] X.w0) 2 β 0 (fun _ _ _ => False) = (
  AskNew X.w0 fun b0 =>
  Ask (rPlain x0) fun x2 =>
  Ask (rPlain x2) fun x3 =>
  Ret X X.w0 [b0] [] (.agg #[x3, (J 0), (J 0), (J 0), (J 0), (J 0), (J 0), (J 0), (J 0), (J 0), (J 0), (J 0), (J 0), (J 0), (J 0), (J 0), (J 0), (J 0), (J 0), (J 0), (J 0), (U 0), (U 0), (U 0), (U 0), (.slice none 0 0)])) := by kernel_rfl
def cNeutral : Contract := fnP (fun _ : Unit => [J 2]) (fun _ => True) (fun _ v => v = E 0)
theorem keepsNeutral : Keeps1 Tryd.prog GT 57 cNeutral := by
  refine keepsP (T := T0) (A := ann57) (fun _ _ _ _ _ => rfl) hMix keepT0 hGT (fun f hf => by cases hf) (fun f hf => by cases hf) fun n w0 hn _ => ⟨[.x (.v 0)], [], [], 2, env0 [J 2] w0, fun b => b, 0, rfl, rfl, fun X hX => mem_none hX rfl, fun X hP hS hw hX hR => ?_⟩
  subst hw
  rw [vc57 X]
  intro _ _
  iterate 2 refine a_plain rfl ?_
  exact hR _ _ _ _ rfl

def ann16 : Ann := ⟨[], [], 70, [], [4, 5, 7], none, [], []⟩
def kb16_0 (b0 b1 b2 b3 b4 : Nat) (x5 x6 x7 x8 x9 x10 x11 x12 x13 x14 x15 x16 x17 x18 x19 x20 x21 : Value) : List KB := [⟨b0, true, 29, #[x5, x6, x7, x8, x9, x10, x11, x12, x13, x14, x15, x16, x17, x18]⟩, ⟨b1, true, 26, (aggArr x19)⟩, ⟨b2, true, 26, (aggArr x20)⟩, ⟨b3, true, 48, #[(.slice none 0 0), (.slice none 0 0)]⟩, ⟨b4, true, 26, (aggArr x21)⟩]
theorem vc16 (X : Ctx) (β : Nat → Nat) (x0 x1 x2 : Value) : (run Tryd.prog ann16 16 [.x (.v 0), .x (.v 1), .x (.v 2)] [] [] 4).den X (env0 [x0, x1, x2] X.w0) 4 β 0 (fun _ _ _ => False) = (
  Ask (rAgg 14 x0) fun x4 =>
  Ask (rSel (aggArr x4) 0 1 false) fun x5 =>
  Ask (rSel (aggArr x4) 1 1 false) fun x6 =>
  Ask (rSel (aggArr x4) 2 1 false) fun x7 =>
  Ask (rSel (aggArr x4) 3 1 false) fun x8 =>
  Ask (rSel (aggArr x4) 4 1 false) fun x9 =>
  Ask (rSel (aggArr x4) 5 1 false) fun x10 =>
  Ask (rSel (aggArr x4) 6 1 false) fun x11 =>
  Ask (rSel (aggArr x4) 7 1 false) fun x12 =>
  Ask (rSel (aggArr x4) 8 1 false) fun x13 =>
  Ask (rSel (aggArr x4) 9 1 false) fun x14 =>
  Ask (rSel (aggArr x4) 10 1 false) fun x15 =>
  Ask (rSel (aggArr x4) 11 1 false) fun x16 =>
  Ask (rSel (aggArr x4) 12 1 false) fun x17 =>
  Ask (rSel (aggArr x4) 13 1 false) fun x18 =>
  AskNew X.w0 fun b0 =>
  Ask (rAgg 4 x1) fun x19 =>
  AskNew X.w0 fun b1 =>
  Ask (rAgg 4 x2) fun x20 =>
  AskNew X.w0 fun b2 =>
  AskNew X.w0 fun b3 =>
  Ask (rAgg 4 (.agg #[(U 0), (U 0), (U 0), (U 0)])) fun x21 =>
  AskNew X.w0 fun b4 =>
  AskO X X.w0 [] (kb16_0 b0 b1 b2 b3 b4 x5 x6 x7 x8 x9 x10 x11 x12 x13 x14 x15 x16 x17 x18 x19 x20 x21) false (Go.Op.buildSlice 27 3 #[(0, Go.Operand.tmp 9), (1, Go.Operand.tmp 11), (2, Go.Operand.tmp 12)]) 27 [(9, (.agg #[x5, x6, x7, x8])), (11, (.agg #[x9, x10, x11, x12])), (12, x21)] fun x22 w22 =>
  AskO X w22 [] (kb16_0 b0 b1 b2 b3 b4 x5 x6 x7 x8 x9 x10 x11 x12 x13 x14 x15 x16 x17 x18 x19 x20 x21) false (Go.Op.buildSlice 27 3 #[(0, Go.Operand.tmp 15), (1, Go.Operand.tmp 16), (2, Go.Operand.tmp 18)]) 27 [(15, (.agg #[x5, x6, x7, x8])), (16, x21), (18, (.agg #[x9, x10, x11, x12]))] fun x23 w23 =>
  AskO X w23 [] (kb16_0 b0 b1 b2 b3 b4 x5 x6 x7 x8 x9 x10 x11 x12 x13 x14 x15 x16 x17 x18 x19 x20 x21) false (Go.Op.buildSlice 46 2 #[(0, Go.Operand.tmp 13), (1, Go.Operand.tmp 19)]) 46 [(13, x22), (19, x23)] fun x24 w24 =>
  AskO X w24 [] (kb16_0 b0 b1 b2 b3 b4 x5 x6 x7 x8 x9 x10 x11 x12 x13 x14 x15 x16 x17 x18 x19 x20 x21) false (Go.Op.buildSlice 27 2 #[(0, Go.Operand.tmp 21), (1, Go.Operand.tmp 22)]) 27 [(21, x19), (22, x20)] fun x25 w25 =>
  Ask (rPlain x24) fun x26 =>
  Ask (rPlain x25) fun x27 =>
  Ask (rPlain x26) fun x28 =>
  Ask (rPlain x27) fun x29 =>
  Ret X w25 [b3] [] (.agg #[x28, x29])) := by kernel_rfl
theorem okS0 : okS 0 := by unfold okS; decide
def cEqual : Contract := fnW (Cods.cons cSet (Cods.cons cS (Cods.cons cS Cods.nil))) (fun _ _ => True) (fun p _ v w' => cClaim.rd w' v ([[p.1.1, p.1.2.1, 0], [p.1.1, 0, p.1.2.1]], [p.2.1, p.2.2.1]))
theorem keepsEqual : Keeps1 Tryd.prog GT 16 cEqual := by
  refine keepsW (T := T0) (A := ann16) hMix keepT0 hGT (fun f hf => by cases hf) (fun f hf => by cases hf) fun args ⟨⟨b, bl, q, g, h⟩, x, y, _⟩ w0 hrd _ _ => ?_
  obtain ⟨_, _, rfl, ⟨rfl, ob, obl, oq, og, oh⟩, _, _, rfl, ⟨rfl, hx⟩, _, _, rfl, ⟨rfl, hy⟩, rfl⟩ := hrd
  dsimp only at ob obl oq og oh hx hy
  refine ⟨[.x (.v 0), .x (.v 1), .x (.v 2)], [], [], 4, env0 [SetV b bl q g h, S x, S y] w0, fun b => b, 0, rfl, rfl, fun X hX => mem_none hX rfl, fun X hP hS hw hX hR => ?_⟩
  subst hw; dsimp only at hR
  rw [vc16 X]
  refine a_agg rfl (by simp [one_encS, og, oh]) ?_
  iterate 14 refine a_sel1 rfl ?_
  intro _ _; rw [ask_aggS]; intro _ _; rw [ask_aggS]; intro _ _ b3 _; rw [ask_zero4]; intro _ _
  refine a_build (encS b ++ encS bl ++ encS 0).toArray hX hP tyL (by decide) (by decide) (by kernel_rfl) rfl (by decide) fun g1 _ u1 h1 k1 _ s1 o1 => ?_
  refine a_build (encS b ++ encS 0 ++ encS bl).toArray hX hP tyL (by decide) (by decide) (by kernel_rfl) rfl (by decide) fun g2 _ u2 h2 k2 _ s2 o2 => ?_
  refine a_build #[.slice (some ⟨g1, 0, none⟩) 3 3, .slice (some ⟨g2, 0, none⟩) 3 3] hX hP tyLL (by decide) (by decide) (by kernel_rfl) rfl (by decide) fun g3 _ u3 h3 k3 _ s3 o3 => ?_
  refine a_build (encS x ++ encS y).toArray hX hP tyL (by decide) (by decide) (by kernel_rfl) rfl (by decide) fun g4 _ u4 h4 k4 _ s4 o4 => ?_
  iterate 4 refine a_plain rfl ?_
  refine hR _ _ _ _ fun w hw => ?_
  exact ⟨_, _, rfl, LLs2 (own_at (own_stp0 o3 s4) (all1 (h3.low (by simp [kb16_0]))) hw.stp)
    ⟨own_at (own_stp0 o1 (s2.trans0 (s3.trans0 s4))) (all1 (h1.low (by simp [kb16_0]))) hw.stp, fun n hn => by
      simp only [List.mem_cons, List.not_mem_nil, or_false] at hn; rcases hn with rfl | rfl | rfl <;> first | assumption | exact okS0⟩
    ⟨own_at (own_stp0 o2 (s3.trans0 s4)) (all1 (h2.low (by simp [kb16_0]))) hw.stp, fun n hn => by
      simp only [List.mem_cons, List.not_mem_nil, or_false] at hn; rcases hn with rfl | rfl | rfl <;> first | assumption | exact okS0⟩,
    own_at o4 (all1 (h4.low (by simp [kb16_0]))) hw.stp, fun n hn => by
      simp only [List.mem_cons, List.not_mem_nil, or_false] at hn; rcases hn with rfl | rfl <;> assumption⟩

def ann17 : Ann := ⟨[], [57], 70, [], [], none, [], []⟩
def kb17_0 (b0 b1 b2 b3 b4 : Nat) (x4 x5 x6 x9 : Value) : List KB := [⟨b0, true, 44, (aggArr x4)⟩, ⟨b1, true, 39, (aggArr x5)⟩, ⟨b2, true, 39, (aggArr x6)⟩, ⟨b3, true, 52, #[(J 0), (.slice none 0 0), (.slice none 0 0)]⟩, ⟨b4, true, 39, (aggArr x9)⟩]
theorem vc17 (X : Ctx) (β : Nat → Nat) (x0 x1 x2 : Value) : (run Tryd.prog ann17 17 [.x (.v 0), .x (.v 1), .x (.v 2)] [] [] 4).den X (env0 [x0, x1, x2] X.w0) 4 β 0 (fun _ _ _ => False) = (
  Ask (rAgg 81 x0) fun x4 =>
  AskNew X.w0 fun b0 =>
  Ask (rAgg 26 x1) fun x5 =>
  AskNew X.w0 fun b1 =>
  Ask (rAgg 26 x2) fun x6 =>
  AskNew X.w0 fun b2 =>
  AskNew X.w0 fun b3 =>
  Ask (rSel (aggArr x4) 0 1 false) fun x7 =>
  AskF X 57 [x7] fun x8 =>
  AskNew X.w0 fun b4 =>
  Ask (rAgg 26 x8) fun x9 =>
  Ask (rSel (aggArr x4) 0 1 false) fun x10 =>
  Ask (rSel (aggArr x4) 1 26 true) fun x11 =>
  Ask (rSel (aggArr x4) 27 26 true) fun x12 =>
  AskO X X.w0 [b4] (kb17_0 b0 b1 b2 b3 b4 x4 x5 x6 x9) false (Go.Op.buildSlice 42 3 #[(0, Go.Operand.tmp 14), (1, Go.Operand.tmp 16), (2, Go.Operand.tmp 17)]) 42 [(14, x11), (16, x12), (17, x9)] fun x13 w13 =>
  Ask (rSel (aggArr x4) 1 26 true) fun x14 =>
  Ask (rSel (aggArr x4) 27 26 true) fun x15 =>
  AskO X w13 [] (kb17_0 b0 b1 b2 b3 b4 x4 x5 x6 x9) false (Go.Op.buildSlice 42 3 #[(0, Go.Operand.tmp 20), (1, Go.Operand.tmp 21), (2, Go.Operand.tmp 23)]) 42 [(20, x14), (21, x9), (23, x15)] fun x16 w16 =>
  AskO X w16 [] (kb17_0 b0 b1 b2 b3 b4 x4 x5 x6 x9) false (Go.Op.buildSlice 50 2 #[(0, Go.Operand.tmp 18), (1, Go.Operand.tmp 24)]) 50 [(18, x13), (24, x16)] fun x17 w17 =>
  AskO X w17 [] (kb17_0 b0 b1 b2 b3 b4 x4 x5 x6 x9) false (Go.Op.buildSlice 42 2 #[(0, Go.Operand.tmp 26), (1, Go.Operand.tmp 27)]) 42 [(26, x5), (27, x6)] fun x18 w18 =>
  Ask (rPlain x10) fun x19 =>
  Ask (rPlain x17) fun x20 =>
  Ask (rPlain x18) fun x21 =>
  Ask (rPlain x19) fun x22 =>
  Ask (rPlain x20) fun x23 =>
  Ask (rPlain x21) fun x24 =>
  Ret X w18 [b3] [] (.agg #[x22, x23, x24])) := by kernel_rfl
def Tne : Table := T0.add 57 cNeutral
theorem keepTne : AllKeep Tryd.prog GT Tne := keepT0.add keepsNeutral
def cREqual : Contract := fnW (Cods.cons cRSet (Cods.cons cE (Cods.cons cE Cods.nil))) (fun _ _ => True) (fun p _ v w' => cRClaim.rd w' v ([[p.1.1, p.1.2.1, 0], [p.1.1, 0, p.1.2.1]], [p.2.1, p.2.2.1]))
theorem keepsREqual : Keeps1 Tryd.prog GT 17 cREqual := by
  refine keepsW (T := Tne) (A := ann17) hMix keepTne hGT (fun f hf => by
      simp only [ann17, List.mem_cons, List.not_mem_nil, or_false] at hf
      subst hf; intros; kernel_rfl) (fun f hf => by cases hf) fun args ⟨⟨b, bl, q, g, h⟩, x, y, _⟩ w0 hrd _ _ => ?_
  obtain ⟨_, _, rfl, ⟨rfl, ob, obl, oq, oq2, og, oh⟩, _, _, rfl, ⟨rfl, hx⟩, _, _, rfl, ⟨rfl, hy⟩, rfl⟩ := hrd
  dsimp only at ob obl oq oq2 og oh hx hy
  refine ⟨[.x (.v 0), .x (.v 1), .x (.v 2)], [], [], 4, env0 [RSetV b bl q g h, E x, E y] w0, fun b => b, 0, rfl, rfl, fun X hX => mem_none hX rfl, fun X hP hS hw hX hR => ?_⟩
  subst hw; dsimp only at hR
  rw [vc17 X]
  refine a_agg (by simp [oq, encE_len]) (by simp only [List.all_append, List.all_cons, List.all_nil, one_encE, oq2, og, oh, oneJ2, Bool.and_true]) ?_
  intro _ _; rw [ask_aggE]; intro _ _; rw [ask_aggE]; intro _ _ b3 _
  refine a_sel1 rfl ?_
  refine call_PE hS (T := Tne) (f := 57) rfl () trivial ?_
  intro b4 _
  rw [ask_aggE]
  refine a_sel1 rfl ?_
  refine a_selL (ds := encE b) rfl (by simp [oq, encE_len]) ?_
  refine a_selL (ds := encE bl) rfl (by simp [oq, encE_len]) ?_
  refine a_build (encE b ++ encE bl ++ encE 0).toArray hX hP tyE (by decide) (by decide) (by kernel_rfl) rfl (by decide) fun g1 _ u1 h1 k1 _ s1 o1 => ?_
  refine a_selL (ds := encE b) rfl (by simp [oq, encE_len]) ?_
  refine a_selL (ds := encE bl) rfl (by simp [oq, encE_len]) ?_
  refine a_build (encE b ++ encE 0 ++ encE bl).toArray hX hP tyE (by decide) (by decide) (by kernel_rfl) rfl (by decide) fun g2 _ u2 h2 k2 _ s2 o2 => ?_
  refine a_build #[.slice (some ⟨g1, 0, none⟩) 3 3, .slice (some ⟨g2, 0, none⟩) 3 3] hX hP tyEE (by decide) (by decide) (by kernel_rfl) rfl (by decide) fun g3 _ u3 h3 k3 _ s3 o3 => ?_
  refine a_build (encE x ++ encE y).toArray hX hP tyE (by decide) (by decide) (by kernel_rfl) rfl (by decide) fun g4 _ u4 h4 k4 _ s4 o4 => ?_
  iterate 6 refine a_plain rfl ?_
  refine hR _ _ _ _ fun w hw => ?_
  exact ⟨_, _, rfl, LLs2 (own_at (own_stp0 o3 s4) (all1 (h3.low (by simp [kb17_0]))) hw.stp)
    ⟨own_at (own_stp0 o1 (s2.trans0 (s3.trans0 s4))) (all1 (h1.low (by simp [kb17_0]))) hw.stp, fun n hn => by
      simp only [List.mem_cons, List.not_mem_nil, or_false] at hn; rcases hn with rfl | rfl | rfl <;> first | assumption | exact okS0⟩
    ⟨own_at (own_stp0 o2 (s3.trans0 s4)) (all1 (h2.low (by simp [kb17_0]))) hw.stp, fun n hn => by
      simp only [List.mem_cons, List.not_mem_nil, or_false] at hn; rcases hn with rfl | rfl | rfl <;> first | assumption | exact okS0⟩,
    own_at o4 (all1 (h4.low (by simp [kb17_0]))) hw.stp, fun n hn => by
      simp only [List.mem_cons, List.not_mem_nil, or_false] at hn; rcases hn with rfl | rfl <;> assumption⟩
end Go.Vc
