/-
  Claims over the scalars (sigma.Key, Opening, Equal and the document's): contracts.
-/
import Derived.Test.YtapkkciimlffnaaGreatDoorDRef2
import Derived.Test.YtapkkciimlffnaaGreatDoorDLeast
namespace Go.Vc
open Go Go.Proofs Go.RowKit

theorem Keeps1.imp {P : Program} {G : World → Prop} {f : Nat} {c d : Contract} (h : Keeps1 P G f c) (hp : ∀ args, d.pre args → c.pre args ∧ ∀ v, c.post args v → d.post args v) (hW : ∀ args w, ¬ d.preW args w) : Keeps1 P G f d :=
  ⟨fun args w hd hg => (h.calls args w (hp args hd).1 hg).mono fun _ _ ⟨v, he, hq, hb⟩ => ⟨v, he, (hp args hd).2 v hq, hb⟩, fun args w hd _ => absurd hd (hW args w)⟩
theorem S_L4 (n : Nat) : S n = L4 (lb n 0) (lb n 1) (lb n 2) (lb n 3) := rfl
theorem lim_lb (n : Nat) : lim (lb n 0) (lb n 1) (lb n 2) (lb n 3) := ⟨lb_lt _ _, lb_lt _ _, lb_lt _ _, lb_lt _ _⟩
theorem lm_lt (n : Nat) : n % lN < W256 := Nat.lt_trans (Nat.mod_lt _ (by decide)) lN_lt

/-- The least scalar, by numbers. -/
def cLeastS : Contract := fnP enc1 (· < W256) (fun n v => v = S (n % lN))
theorem keepsLeast : Keeps1 Tryz.prog GT 33 cLeastS := keeps33.imp (fun args ⟨n, hn, ha⟩ => ⟨⟨_, _, _, _, ha, lim_lb n⟩, fun v hv m hm hm' => by
    obtain rfl := inj1 m n hm hn (hm'.symm.trans ha)
    obtain ⟨d0, d1, d2, d3, rfl, ⟨q0, q1, q2, q3⟩, hN⟩ := hv _ _ _ _ ha
    replace hN : d0 + B64 * d1 + B64 ^ 2 * d2 + B64 ^ 3 * d3 = (lb m 0 + B64 * lb m 1 + B64 ^ 2 * lb m 2 + B64 ^ 3 * lb m 3) % lN := hN
    rw [limbs_sum m hn] at hN
    show Value.agg #[U d0, U d1, U d2, U d3] = _
    rw [S_of q0 q1 q2 q3]
    exact congrArg S hN⟩) (fun _ _ h => h)

def cLineOfS : Contract := fnP enc1 (· < W256) (fun n v => v = E n)
/-! ### claims -/
theorem tyL : ElTy Tryz.prog 49 48 4 32 (.agg #[U 0, U 0, U 0, U 0]) := ⟨by kernel_rfl, by kernel_rfl⟩
theorem tyLL : ElTy Tryz.prog 91 49 1 24 (.slice none 0 0) := ⟨by kernel_rfl, by kernel_rfl⟩
def cClaim : Cod (List (List Nat) × List Nat) := cP (cLL cLS) cLS
/-- The document's claim over the scalars: its kind, its lists. -/
def cRClaim : Cod (List (List Nat) × List Nat) := ⟨fun w v p => ∃ x y, v = .agg #[J 2, x, y] ∧ (cLL cLE).rd w x p.1 ∧ cLE.rd w y p.2, fun w v p q ⟨x, y, h1, h2, h3⟩ ⟨x', y', k1, k2, k3⟩ => by
  rw [h1] at k1; cases k1
  exact Prod.ext ((cLL cLE).inj _ _ _ _ h2 k2) (cLE.inj _ _ _ _ h3 k3)⟩
theorem cLS_stable : cLS.Stable := cL_stable
theorem cLE_stable : cLE.Stable := cL_stable
theorem cClaim_stable : cClaim.Stable := cP_stable (cLL_stable cLS_stable) cLS_stable
theorem cRClaim_stable : cRClaim.Stable := fun _ _ _ _ hs ⟨x, y, h1, h2, h3⟩ => ⟨x, y, h1, cLL_stable cLE_stable _ _ _ _ hs h2, cLE_stable _ _ _ _ hs h3⟩

def ann36 : Ann := ⟨[], [], 70, [], [2, 3], none, [], []⟩
def kb36_0 (b0 b1 b2 : Nat) (x3 x4 : Value) : List KB := [⟨b0, true, 48, (aggArr x3)⟩, ⟨b1, true, 48, (aggArr x4)⟩, ⟨b2, true, 93, #[(.slice none 0 0), (.slice none 0 0)]⟩]
theorem vc36 (X : Ctx) (β : Nat → Nat) (x0 x1 : Value) : (run Tryz.prog ann36 36 [.x (.v 0), .x (.v 1)] [] [] 3).den X (env0 [x0, x1] X.w0) 3 β 0 (fun _ _ _ => False) = (
  Ask (rAgg 4 x0) fun x3 =>
  AskNew X.w0 fun b0 =>
  Ask (rAgg 4 x1) fun x4 =>
  AskNew X.w0 fun b1 =>
  AskNew X.w0 fun b2 =>
  AskO X X.w0 [] (kb36_0 b0 b1 b2 x3 x4) false (Go.Op.buildSlice 49 1 #[(0, Go.Operand.tmp 5)]) 49 [(5, x3)] fun x5 w5 =>
  AskO X w5 [] (kb36_0 b0 b1 b2 x3 x4) false (Go.Op.buildSlice 91 1 #[(0, Go.Operand.tmp 6)]) 91 [(6, x5)] fun x6 w6 =>
  AskO X w6 [] (kb36_0 b0 b1 b2 x3 x4) false (Go.Op.buildSlice 49 1 #[(0, Go.Operand.tmp 8)]) 49 [(8, x4)] fun x7 w7 =>
  Ask (rPlain x6) fun x8 =>
  Ask (rPlain x7) fun x9 =>
  Ask (rPlain x8) fun x10 =>
  Ask (rPlain x9) fun x11 =>
  Ret X w7 [b2] [] (.agg #[x10, x11])) := by kernel_rfl
def cKey : Contract := fnW (Cods.cons cS (Cods.cons cS Cods.nil)) (fun _ _ => True) (fun p _ v w' => cClaim.rd w' v ([[p.1]], [p.2.1]))
theorem keepsKey : Keeps1 Tryz.prog GT 36 cKey := by
  refine keepsW (T := T0) (A := ann36) hMix keepT0 hGT (fun f hf => by cases hf) (fun f hf => by cases hf) fun args ⟨x, y, _⟩ w0 hrd _ _ => ?_
  obtain ⟨_, _, rfl, ⟨rfl, hx⟩, _, _, rfl, ⟨rfl, hy⟩, rfl⟩ := hrd
  refine ⟨[.x (.v 0), .x (.v 1)], [], [], 3, env0 [S x, S y] w0, fun b => b, 0, rfl, rfl, fun X hX => mem_none hX rfl, fun X hP hS hw hX hR => ?_⟩
  subst hw; dsimp only at hR hx hy
  rw [vc36 X]
  rw [ask_aggS]; intro _ _; rw [ask_aggS]; intro _ _ b2 _
  refine a_build (encS x).toArray hX hP tyL (by decide) (by decide) (by kernel_rfl) rfl (by decide) fun g1 _ u1 h1 k1 _ s1 o1 => ?_
  refine a_build #[.slice (some ⟨g1, 0, none⟩) 1 1] hX hP tyLL (by decide) (by decide) (by kernel_rfl) rfl (by decide) fun g2 _ u2 h2 k2 _ s2 o2 => ?_
  refine a_build (encS y).toArray hX hP tyL (by decide) (by decide) (by kernel_rfl) rfl (by decide) fun g3 _ u3 h3 k3 _ s3 o3 => ?_
  iterate 4 refine a_plain rfl ?_
  refine hR _ _ _ _ fun w hw => ?_
  have m : ∀ {a c d : Nat} {v v' : Value}, d ∈ (kb36_0 a c d v v').map (·.b) := by simp [kb36_0]
  exact ⟨_, _, rfl, LLs1 (own_at (own_stp0 o2 s3) (all1 (h2.low m)) hw.stp) ⟨own_at (own_stp0 o1 (s2.trans0 s3)) (all1 (h1.low m)) hw.stp, all1 hx⟩, own_at o3 (all1 (h3.low m)) hw.stp, all1 hy⟩

theorem ask_aggE {K : Value → Prop} {n : Nat} : Ask (rAgg 26 (E n)) K = K (E n) := ask_agg rfl (by simp [encE, U, Value.oneCell'])
def cRKey : Contract := fnW (Cods.cons cE (Cods.cons cE Cods.nil)) (fun _ _ => True) (fun p _ v w' => cRClaim.rd w' v ([[p.1]], [p.2.1]))
/-! ### sets -/
def zE : List Value := [J 0, J 0, J 0, J 0, J 0, J 0, J 0, J 0, J 0, J 0, J 0, J 0, J 0, J 0, J 0, J 0, J 0, J 0, J 0, J 0, J 0, U 0, U 0, U 0, U 0, .slice none 0 0]
theorem one_zE : zE.all (·.oneCell') = true := by simp [zE, U, Value.oneCell']
def SetV (b bl q : Nat) (g h : Value) : Value := .agg (encS b ++ encS bl ++ encS q ++ [g, h]).toArray
def RSetV (b bl : Nat) (q : List Value) (g h : Value) : Value := .agg ([J 2] ++ encE b ++ encE bl ++ q ++ [g, h]).toArray
def cSet : Cod (Nat × Nat × Nat × Value × Value) := ⟨fun _ v p => v = SetV p.1 p.2.1 p.2.2.1 p.2.2.2.1 p.2.2.2.2 ∧ okS p.1 ∧ okS p.2.1 ∧ okS p.2.2.1 ∧ p.2.2.2.1.oneCell' = true ∧ p.2.2.2.2.oneCell' = true, fun _ _ ⟨b, bl, q, g, h⟩ ⟨b', bl', q', g', h'⟩ ⟨e, o1, o2, o3, _⟩ ⟨e', o1', o2', o3', _⟩ => by
  dsimp only at e e' o1 o2 o3 o1' o2' o3'
  rw [e] at e'
  simp only [SetV, Value.agg.injEq, List.append_assoc] at e'
  have e' := congrArg Array.toList e'
  simp only at e'
  obtain ⟨e1, e'⟩ := List.append_inj e' rfl
  obtain ⟨e2, e'⟩ := List.append_inj e' rfl
  obtain ⟨e3, e'⟩ := List.append_inj e' rfl
  simp only [List.cons.injEq, and_true] at e'
  rw [encS_inj o1 o1' e1, encS_inj o2 o2' e2, encS_inj o3 o3' e3, e'.1, e'.2]⟩
def cRSet : Cod (Nat × Nat × List Value × Value × Value) := ⟨fun _ v p => v = RSetV p.1 p.2.1 p.2.2.1 p.2.2.2.1 p.2.2.2.2 ∧ okS p.1 ∧ okS p.2.1 ∧ p.2.2.1.length = 26 ∧ p.2.2.1.all (·.oneCell') = true ∧ p.2.2.2.1.oneCell' = true ∧ p.2.2.2.2.oneCell' = true, fun _ _ ⟨b, bl, q, g, h⟩ ⟨b', bl', q', g', h'⟩ ⟨e, o1, o2, o3, _⟩ ⟨e', o1', o2', o3', _⟩ => by
  dsimp only at e e' o1 o2 o3 o1' o2' o3'
  rw [e] at e'
  simp only [RSetV, Value.agg.injEq, List.append_assoc] at e'
  have e' := congrArg Array.toList e'
  simp only at e'
  obtain ⟨_, e'⟩ := List.append_inj e' rfl
  obtain ⟨e1, e'⟩ := List.append_inj e' rfl
  obtain ⟨e2, e'⟩ := List.append_inj e' rfl
  obtain ⟨e3, e'⟩ := List.append_inj e' (o3.trans o3'.symm)
  simp only [List.cons.injEq, and_true] at e'
  rw [encE_inj o1 o1' e1, encE_inj o2 o2' e2, e3, e'.1, e'.2]⟩
theorem oneJ2 : (J 2).oneCell' = true := rfl
theorem one_encS (n : Nat) : (encS n).all (·.oneCell') = true := by simp [encS, U, Value.oneCell']
theorem one_encE (n : Nat) : (encE n).all (·.oneCell') = true := by simp [encE, U, Value.oneCell']

def cOpening : Contract := fnW (Cods.cons cSet (Cods.cons cS Cods.nil)) (fun _ _ => True) (fun p _ v w' => cClaim.rd w' v ([[p.1.1, p.1.2.1]], [p.2.1]))
def cROpening : Contract := fnW (Cods.cons cRSet (Cods.cons cE Cods.nil)) (fun _ _ => True) (fun p _ v w' => cRClaim.rd w' v ([[p.1.1, p.1.2.1]], [p.2.1]))
theorem take_app {a b : List Value} {n : Nat} (h : a.length = n) : (a ++ b).take n = a := by rw [← h]; simp
def cNeutral : Contract := fnP (fun _ : Unit => [J 2]) (fun _ => True) (fun _ v => v = E 0)
theorem okS0 : okS 0 := by unfold okS; decide
def cEqual : Contract := fnW (Cods.cons cSet (Cods.cons cS (Cods.cons cS Cods.nil))) (fun _ _ => True) (fun p _ v w' => cClaim.rd w' v ([[p.1.1, p.1.2.1, 0], [p.1.1, 0, p.1.2.1]], [p.2.1, p.2.2.1]))
def cREqual : Contract := fnW (Cods.cons cRSet (Cods.cons cE (Cods.cons cE Cods.nil))) (fun _ _ => True) (fun p _ v w' => cRClaim.rd w' v ([[p.1.1, p.1.2.1, 0], [p.1.1, 0, p.1.2.1]], [p.2.1, p.2.2.1]))
end Go.Vc
