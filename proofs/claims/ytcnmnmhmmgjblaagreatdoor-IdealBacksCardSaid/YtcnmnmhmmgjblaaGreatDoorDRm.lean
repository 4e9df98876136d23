/-
  The document's scalars: Int, Add, Neg, IsZero, halves, Mul by numbers.
-/
import Derived.Test.YtcnmnmhmmgjblaaGreatDoorDBy
namespace Go.Vc
open Go Go.Proofs Go.RowKit
def ann57 : Ann := ⟨[], [], 70, [], [2], none, [], []⟩
theorem vc57 (X : Ctx) (β : Nat → Nat) (x0 : Value) : (run Tryz.prog ann57 57 [.x (.v 0)] [] [] 2).den X (env0 [x0] X.w0) 2 β 0 (fun _ _ _ => False) = (
 Ask (rAgg 4 (.agg #[(U 0), (U 0), (U 0), (U 0)])) fun _ =>
 AskNew X.w0 fun b0 =>
 Ask (rPlain x0) fun x3 =>
 Ask (rAgg 4 (.agg #[x3, (U 0), (U 0), (U 0)])) fun x4 =>
 Ret X X.w0 [b0] [] x4) := by kernel_rfl
def cRInt : Contract := fnP (fun n : Nat => [U n]) (· < B64) (fun n v => v = S n)
theorem S_small {n : Nat} (h : n < B64) : Value.agg #[U n, U 0, U 0, U 0] = S n := by
  have z : 0 < B64 := by decide
  rw [S_of h z z z]
  simp
theorem keepsRInt : Keeps1 Tryz.prog GT 57 cRInt := by
  refine keepsP (T := T0) (A := ann57) (fun a b _ _ h => U_inj' (by simpa using h)) hMix keepT0 hGT (fun f hf => by cases hf) (fun f hf => by cases hf) fun n w0 hn _ => ⟨[.x (.v 0)], [], [], 2, env0 [U n] w0, fun b => b, 0, rfl, rfl, fun X hX => mem_none hX rfl, fun X hP hS hw hX hR => ?_⟩
  subst hw
  rw [vc57 X]
  rw [ask_zero4]; intro _ _
  rw [ask_uplain, S_small hn, ask_aggS]
  exact hR _ _ _ _ rfl
def ann106 : Ann := ⟨[], [112, 130, 114, 115], 70, [], [2, 3, 4, 5], none, [], []⟩
theorem vc106 (X : Ctx) (β : Nat → Nat) (x0 x1 : Value) : (run Tryz.prog ann106 106 [.x (.v 0), .x (.v 1)] [] [] 3).den X (env0 [x0, x1] X.w0) 3 β 0 (fun _ _ _ => False) = (
 Ask (rAgg 4 x0) fun x3 =>
 AskNew X.w0 fun _ =>
 Ask (rAgg 4 x1) fun x4 =>
 AskNew X.w0 fun _ =>
 Ask (rAgg 4 (.agg #[(U 0), (U 0), (U 0), (U 0)])) fun _ =>
 AskNew X.w0 fun b2 =>
 AskF X 130 [x3, x4] fun x6 =>
 Ask (rExt X.P x6 0) fun x7 =>
 Ask (rExt X.P x6 1) fun _ =>
 Ask (rAgg 4 (.agg #[(U 0), (U 0), (U 0), (U 0)])) fun _ =>
 AskNew X.w0 fun b3 =>
 Ask (rAgg 4 x7) fun x10 =>
 AskF X 112 [] fun x11 =>
 AskF X 114 [x10, x11] fun x12 =>
 Ask (rUn X.P .not x12) fun x13 =>
 (∃ t, x13 = .bool t) ∧ (x13 = .bool true →
 AskF X 112 [] fun x14 =>
 AskF X 115 [x10, x14] fun x15 =>
 Ask (rExt X.P x15 0) fun x16 =>
 Ask (rExt X.P x15 1) fun _ =>
 Ask (rAgg 4 x16) fun x18 =>
 Ask (rAgg 4 x18) fun x19 =>
 Ret X X.w0 [b2, b3, b3] [] x19) ∧ (x13 = .bool false →
 Ask (rAgg 4 x10) fun x14 =>
 Ret X X.w0 [b2, b3] [] x14)) := by kernel_rfl
def cRAdd : Contract := fnP enc2 (fun p => p.1 < lN ∧ p.2 < lN) (fun p v => v = S ((p.1 + p.2) % lN))
theorem keepsRAdd : Keeps1 Tryz.prog GT 106 cRAdd := by
  refine keepsP (T := T2r) (A := ann106) (fun a b ha hb => inj2 a b ⟨l_W ha.1, l_W ha.2⟩ ⟨l_W hb.1, l_W hb.2⟩) hMix keepT2r hGT (fun f hf => by
      simp only [ann106, List.mem_cons, List.not_mem_nil, or_false] at hf
      rcases hf with rfl | rfl | rfl | rfl <;> intros <;> kernel_rfl) (fun f hf => by cases hf) fun ⟨a, b⟩ w0 ⟨ha, hb⟩ _ => ⟨[.x (.v 0), .x (.v 1)], [], [], 3, env0 [S a, S b] w0, fun b => b, 0, rfl, rfl, fun X hX => mem_none hX rfl, fun X hP hS hw hX hR => ?_⟩
  subst hw; dsimp only at ha hb hR
  rw [vc106 X]
  rw [ask_aggS]; intro _ _; rw [ask_aggS]; intro _ _; rw [ask_zero4]; intro _ _
  refine call_PE hS (T := T2r) (f := 130) rfl (a, b) ⟨l_W ha, l_W hb⟩ ?_
  dsimp only
  have hlt : a + b < 2 * lN := by omega
  have hw : a + b < W256 := Nat.lt_trans hlt (by decide)
  rw [ask_ext0, ask_ext1, Nat.mod_eq_of_lt hw, ask_zero4]; intro _ _
  rw [ask_aggS]
  refine call_PE hS (T := T2r) (f := 112) rfl () trivial ?_
  refine call_PE hS (T := T2r) (f := 114) rfl (a + b, lN) ⟨hw, lN_lt⟩ ?_
  dsimp only
  rw [ask_not]
  refine a_ifN (fun h => ?_) fun h => ?_
  · refine call_PE hS (T := T2r) (f := 112) rfl () trivial ?_
    refine call_PE hS (T := T2r) (f := 115) rfl (a + b, lN) ⟨hw, lN_lt⟩ ?_
    dsimp only
    rw [ask_ext0, ask_ext1, ask_aggS, ask_aggS]
    refine hR _ _ _ _ (congrArg S ?_)
    rw [← low_mod hlt, low, if_neg h]
    have := lN_lt
    generalize lN = L at *
    simp only [W256] at *; omega
  · rw [ask_aggS]
    exact hR _ _ _ _ (congrArg S (Nat.mod_eq_of_lt h).symm)
def ann54 : Ann := ⟨[], [], 70, [], [1], none, [], []⟩
theorem vc54 (X : Ctx) (β : Nat → Nat) (x0 : Value) : (run Tryz.prog ann54 54 [.x (.v 0)] [] [] 2).den X (env0 [x0] X.w0) 2 β 0 (fun _ _ _ => False) = (
 Ask (rAgg 4 x0) fun x2 =>
 AskNew X.w0 fun _ =>
 Ask (rBin X.P .eql 49 false false x2 (.agg #[(U 0), (U 0), (U 0), (U 0)])) fun x3 =>
 Ret X X.w0 [] [] x3) := by kernel_rfl
def cRIsZ : Contract := fnP enc1 (· < W256) (fun n v => v = .bool (decide (n = 0)))
theorem keepsRIsZ : Keeps1 Tryz.prog GT 54 cRIsZ := by
  refine keepsP (T := T0) (A := ann54) inj1 hMix keepT0 hGT (fun f hf => by cases hf) (fun f hf => by cases hf) fun n w0 hn _ => ⟨[.x (.v 0)], [], [], 2, env0 [S n] w0, fun b => b, 0, rfl, rfl, fun X hX => mem_none hX rfl, fun X hP hS hw hX hR => ?_⟩
  subst hw
  rw [vc54 X]
  rw [ask_aggS]; intro _ _
  rw [show Value.agg #[U 0, U 0, U 0, U 0] = S 0 from rfl, ask_eqlS (hP ▸ a4R) hn (by decide)]
  exact hR _ _ _ _ rfl
def ann116 : Ann := ⟨[], [112, 115, 54], 70, [], [1, 2, 3], none, [], []⟩
theorem vc116 (X : Ctx) (β : Nat → Nat) (x0 : Value) : (run Tryz.prog ann116 116 [.x (.v 0)] [] [] 2).den X (env0 [x0] X.w0) 2 β 0 (fun _ _ _ => False) = (
 Ask (rAgg 4 x0) fun x2 =>
 AskNew X.w0 fun _ =>
 Ask (rAgg 4 (.agg #[(U 0), (U 0), (U 0), (U 0)])) fun _ =>
 AskNew X.w0 fun b1 =>
 AskF X 54 [x2] fun x4 =>
 (∃ t, x4 = .bool t) ∧ (x4 = .bool true →
 Ask (rAgg 4 x2) fun x5 =>
 Ret X X.w0 [b1] [] x5) ∧ (x4 = .bool false →
 AskF X 112 [] fun x5 =>
 AskF X 115 [x5, x2] fun x6 =>
 Ask (rExt X.P x6 0) fun x7 =>
 Ask (rExt X.P x6 1) fun _ =>
 Ask (rAgg 4 (.agg #[(U 0), (U 0), (U 0), (U 0)])) fun _ =>
 AskNew X.w0 fun b2 =>
 Ask (rAgg 4 x7) fun x10 =>
 Ask (rAgg 4 x10) fun x11 =>
 Ret X X.w0 [b1, b2] [] x11)) := by kernel_rfl
def cRNeg : Contract := fnP enc1 (· < lN) (fun n v => v = S (subL 0 n))
def Trn : Table := ((T0.add 112 cRl).add 115 cRminus).add 54 cRIsZ
theorem keepTrn : AllKeep Tryz.prog GT Trn := ((keepT0.add keepsRl).add keepsRminus).add keepsRIsZ
theorem keepsRNeg : Keeps1 Tryz.prog GT 116 cRNeg := by
  refine keepsP (T := Trn) (A := ann116) (fun a b ha hb => inj1 a b (l_W ha) (l_W hb)) hMix keepTrn hGT (fun f hf => by
      simp only [ann116, List.mem_cons, List.not_mem_nil, or_false] at hf
      rcases hf with rfl | rfl | rfl <;> intros <;> kernel_rfl) (fun f hf => by cases hf) fun n w0 hn _ => ⟨[.x (.v 0)], [], [], 2, env0 [S n] w0, fun b => b, 0, rfl, rfl, fun X hX => mem_none hX rfl, fun X hP hS hw hX hR => ?_⟩
  subst hw
  rw [vc116 X]
  rw [ask_aggS]; intro _ _; rw [ask_zero4]; intro _ _
  refine call_PE hS (T := Trn) (f := 54) rfl n (l_W hn) ?_
  refine a_ifD (fun h => ?_) fun h => ?_
  · rw [ask_aggS]
    refine hR _ _ _ _ (congrArg S ?_)
    rw [h]; rfl
  · refine call_PE hS (T := Trn) (f := 112) rfl () trivial ?_
    refine call_PE hS (T := Trn) (f := 115) rfl (lN, n) ⟨lN_lt, l_W hn⟩ ?_
    dsimp only
    rw [ask_ext0, ask_ext1, ask_zero4]; intro _ _
    rw [ask_aggS, ask_aggS]
    refine hR _ _ _ _ (congrArg S ?_)
    have := lN_lt
    unfold subL
    rw [if_pos (by omega)]
    generalize lN = L at *
    simp only [W256] at *; omega
/-! ### the product -/
def num32 : List Nat → Nat | [] => 0 | a :: r => a + 4294967296 * num32 r
def hv (n i : Nat) : Nat := lb n (i / 2) / 4294967296 ^ (i % 2) % 4294967296
def H8 (n : Nat) : Value := .agg #[U (hv n 0), U (hv n 1), U (hv n 2), U (hv n 3), U (hv n 4), U (hv n 5), U (hv n 6), U (hv n 7)]
theorem hv_lt (n i : Nat) : hv n i < 4294967296 := Nat.mod_lt _ (by decide)
theorem hv_sum (n : Nat) (h : n < W256) : num32 [hv n 0, hv n 1, hv n 2, hv n 3, hv n 4, hv n 5, hv n 6, hv n 7] = n := by
  have hs := limbs_sum n h
  have b0 := lb_lt n 0; have b1 := lb_lt n 1; have b2 := lb_lt n 2; have b3 := lb_lt n 3
  show hv n 0 + 4294967296 * (hv n 1 + 4294967296 * (hv n 2 + 4294967296 * (hv n 3 + 4294967296 * (hv n 4 + 4294967296 * (hv n 5 + 4294967296 * (hv n 6 + 4294967296 * (hv n 7 + 4294967296 * 0))))))) = n
  have e : ∀ j, j < 4 → hv n (2 * j) + 4294967296 * hv n (2 * j + 1) = lb n j := fun j hj => by
    have := lb_lt n j
    unfold hv
    rw [show 2 * j / 2 = j by omega, show (2 * j + 1) / 2 = j by omega, show 2 * j % 2 = 0 by omega, show (2 * j + 1) % 2 = 1 by omega]
    simp only [B64] at *
    omega
  have e0 := e 0 (by omega); have e1 := e 1 (by omega); have e2 := e 2 (by omega); have e3 := e 3 (by omega)
  simp only [Nat.mul_zero, Nat.mul_one, Nat.reduceMul, Nat.reduceAdd, Nat.zero_add] at e0 e1 e2 e3
  simp only [B64] at hs
  omega
def ann117 : Ann := ⟨[], [], 70, [], [], none, [], []⟩
theorem vc117 (X : Ctx) (β : Nat → Nat) (x0 x1 x2 x3 : Value) : (run Tryz.prog ann117 117 [.l [.v 0, .v 1, .v 2, .v 3]] [] [] 5).den X (env0 [x0, x1, x2, x3] X.w0) 5 β 0 (fun _ _ _ => False) = (
 AskNew X.w0 fun _ =>
 AskNew X.w0 fun b1 =>
 AskNew X.w0 fun b2 =>
 Ask (rBin X.P .and 22 false true x0 (U 4294967295)) fun x5 =>
 Ask (rPlain x5) fun x6 =>
 Ask (rBin X.P .shr 22 false true x0 (U 32)) fun x7 =>
 Ask (rPlain x7) fun x8 =>
 Ask (rBin X.P .and 22 false true x1 (U 4294967295)) fun x9 =>
 Ask (rPlain x9) fun x10 =>
 Ask (rBin X.P .shr 22 false true x1 (U 32)) fun x11 =>
 Ask (rPlain x11) fun x12 =>
 Ask (rBin X.P .and 22 false true x2 (U 4294967295)) fun x13 =>
 Ask (rPlain x13) fun x14 =>
 Ask (rBin X.P .shr 22 false true x2 (U 32)) fun x15 =>
 Ask (rPlain x15) fun x16 =>
 Ask (rBin X.P .and 22 false true x3 (U 4294967295)) fun x17 =>
 Ask (rPlain x17) fun x18 =>
 Ask (rBin X.P .shr 22 false true x3 (U 32)) fun x19 =>
 Ask (rPlain x19) fun x20 =>
 Ask (rPlain x6) fun x21 =>
 Ask (rPlain x8) fun x22 =>
 Ask (rPlain x10) fun x23 =>
 Ask (rPlain x12) fun x24 =>
 Ask (rPlain x14) fun x25 =>
 Ask (rPlain x16) fun x26 =>
 Ask (rPlain x18) fun x27 =>
 Ask (rPlain x20) fun x28 =>
 Ret X X.w0 [b1, b2, b2, b2, b2, b2, b2, b2, b2] [] (.agg #[x21, x22, x23, x24, x25, x26, x27, x28])) := by kernel_rfl
def cRHalves : Contract := fnP enc1 (· < W256) (fun n v => v = H8 n)
theorem keepsRHalves : Keeps1 Tryz.prog GT 117 cRHalves := by
  refine keepsP (T := T0) (A := ann117) inj1 hMix keepT0 hGT (fun f hf => by cases hf) (fun f hf => by cases hf) fun n w0 hn _ => ⟨[.l [.v 0, .v 1, .v 2, .v 3]], [], [], 5, env0 [U (lb n 0), U (lb n 1), U (lb n 2), U (lb n 3)] w0, fun b => b, 0, rfl, rfl, fun X hX => mem_none hX rfl, fun X hP hS hw hX hR => ?_⟩
  subst hw
  rw [vc117 X, hP]
  intro _ _ _ _ _ _
  rw [ask_umask (k := 32) (lb_lt n 0) (by decide) (by decide), ask_uplain, ask_ushrU (by omega), ask_uplain]
  rw [ask_umask (k := 32) (lb_lt n 1) (by decide) (by decide), ask_uplain, ask_ushrU (by omega), ask_uplain]
  rw [ask_umask (k := 32) (lb_lt n 2) (by decide) (by decide), ask_uplain, ask_ushrU (by omega), ask_uplain]
  rw [ask_umask (k := 32) (lb_lt n 3) (by decide) (by decide), ask_uplain, ask_ushrU (by omega), ask_uplain]
  iterate 8 rw [ask_uplain]
  refine hR _ _ _ _ ?_
  have e0 : ∀ x, x % 2 ^ 32 = x / 4294967296 ^ 0 % 4294967296 := fun x => by rw [Nat.pow_zero, Nat.div_one]
  have e1 : ∀ x, x < B64 → x / 2 ^ 32 = x / 4294967296 ^ 1 % 4294967296 := fun x hx => by simp only [B64] at *; omega
  rw [e0 (lb n 0), e0 (lb n 1), e0 (lb n 2), e0 (lb n 3), e1 _ (lb_lt n 0), e1 _ (lb_lt n 1), e1 _ (lb_lt n 2), e1 _ (lb_lt n 3)]
  rfl
section
variable {K : Value → Prop} {P : Program}
theorem ask_aggH {n : Nat} : Ask (rAgg 8 (H8 n)) K = K (H8 n) := ask_agg rfl (by simp [U, Value.oneCell'])
theorem ask_selH0 {n : Nat} : Ask (rSel (aggArr (H8 n)) 0 1 false) K = K (U (hv n 0)) := ask_sel1 rfl
theorem ask_selH1 {n : Nat} : Ask (rSel (aggArr (H8 n)) 1 1 false) K = K (U (hv n 1)) := ask_sel1 rfl
theorem ask_selH2 {n : Nat} : Ask (rSel (aggArr (H8 n)) 2 1 false) K = K (U (hv n 2)) := ask_sel1 rfl
theorem ask_selH3 {n : Nat} : Ask (rSel (aggArr (H8 n)) 3 1 false) K = K (U (hv n 3)) := ask_sel1 rfl
theorem ask_selH4 {n : Nat} : Ask (rSel (aggArr (H8 n)) 4 1 false) K = K (U (hv n 4)) := ask_sel1 rfl
theorem ask_selH5 {n : Nat} : Ask (rSel (aggArr (H8 n)) 5 1 false) K = K (U (hv n 5)) := ask_sel1 rfl
theorem ask_selH6 {n : Nat} : Ask (rSel (aggArr (H8 n)) 6 1 false) K = K (U (hv n 6)) := ask_sel1 rfl
theorem ask_selH7 {n : Nat} : Ask (rSel (aggArr (H8 n)) 7 1 false) K = K (U (hv n 7)) := ask_sel1 rfl
theorem a_pc {K : Value → Value → Prop} {t : TypeId} {c1 c2 c3 c4 c5 c6 c7 c8 c9 d1 : Bool} {x y p c : Nat} (hx : x < 4294967296) (hy : y < 4294967296) (hp : p < 4294967296) (hc : c < 4294967296) (h : ∀ q d, q < 4294967296 → d < 4294967296 → q + 4294967296 * d = x * y + p + c → K (U q) (U d)) :
    Ask (rBin P .mul t c1 c2 (U x) (U y)) fun v1 => Ask (rBin P .add t c3 c4 v1 (U p)) fun v2 => Ask (rBin P .add t c5 c6 v2 (U c)) fun v3 => Ask (rBin P .and t c7 c8 v3 (U 4294967295)) fun v4 => Ask (rPlain v4) fun v5 => Ask (rBin P .shr t c9 d1 v3 (U 32)) fun v6 => K v5 v6 := by
  have hm : x * y ≤ 4294967295 * 4294967295 := Nat.mul_le_mul (by omega) (by omega)
  rw [ask_umul, ask_uadd, ask_uadd]
  have e : ((x * y % B64 + p) % B64 + c) % B64 = x * y + p + c := by simp only [B64]; omega
  rw [e, ask_umask (k := 32) (by simp only [B64]; omega) (by decide) (by decide), ask_uplain, ask_ushrU (by omega)]
  exact h _ _ (Nat.mod_lt _ (by decide)) (by omega) (Nat.mod_add_div _ _)
theorem row_step {q d z p c A Pt Zt : Nat} (h : q + 4294967296 * d = z + p + c) (hA : A = Pt + Zt + d) : q + 4294967296 * A = (p + 4294967296 * Pt) + (z + 4294967296 * Zt) + c := by omega
theorem col_step {q s t w A W : Nat} (h : q + 4294967296 * s = t + w) (hA : A = s + W) : q + 4294967296 * A = t + (w + 4294967296 * W) := by omega
theorem row_law {x Y p0 p1 p2 p3 p4 p5 p6 p7 q0 q1 q2 q3 q4 q5 q6 q7 d0 d1 d2 d3 d4 d5 d6 d7 y0 y1 y2 y3 y4 y5 y6 y7 : Nat} (hY : num32 [y0, y1, y2, y3, y4, y5, y6, y7] = Y)
    (h0 : q0 + 4294967296 * d0 = x * y0 + p0 + 0) (h1 : q1 + 4294967296 * d1 = x * y1 + p1 + d0) (h2 : q2 + 4294967296 * d2 = x * y2 + p2 + d1) (h3 : q3 + 4294967296 * d3 = x * y3 + p3 + d2) (h4 : q4 + 4294967296 * d4 = x * y4 + p4 + d3)
    (h5 : q5 + 4294967296 * d5 = x * y5 + p5 + d4) (h6 : q6 + 4294967296 * d6 = x * y6 + p6 + d5) (h7 : q7 + 4294967296 * d7 = x * y7 + p7 + d6) :
    q0 + 4294967296 * num32 [q1, q2, q3, q4, q5, q6, q7, d7] = num32 [p0, p1, p2, p3, p4, p5, p6, p7] + x * Y := by
  have e : x * Y = x * y0 + 4294967296 * (x * y1 + 4294967296 * (x * y2 + 4294967296 * (x * y3 + 4294967296 * (x * y4 + 4294967296 * (x * y5 + 4294967296 * (x * y6 + 4294967296 * (x * y7 + 4294967296 * 0))))))) := by
    rw [← hY]; simp only [num32, Nat.mul_add, Nat.mul_left_comm, Nat.mul_zero, Nat.add_zero]
  rw [e]
  clear e hY
  obtain ⟨z0, z1, z2, z3, z4, z5, z6, z7, hz0, hz1, hz2, hz3, hz4, hz5, hz6, hz7⟩ : ∃ z0 z1 z2 z3 z4 z5 z6 z7 : Nat, x * y0 = z0 ∧ x * y1 = z1 ∧ x * y2 = z2 ∧ x * y3 = z3 ∧ x * y4 = z4 ∧ x * y5 = z5 ∧ x * y6 = z6 ∧ x * y7 = z7 := ⟨_, _, _, _, _, _, _, _, rfl, rfl, rfl, rfl, rfl, rfl, rfl, rfl⟩
  rw [hz0, hz1, hz2, hz3, hz4, hz5, hz6, hz7]
  rw [hz0] at h0
  rw [hz1] at h1
  rw [hz2] at h2
  rw [hz3] at h3
  rw [hz4] at h4
  rw [hz5] at h5
  rw [hz6] at h6
  rw [hz7] at h7
  have g7 : q7 + 4294967296 * (d7 + 4294967296 * 0) = (p7 + 4294967296 * 0) + (z7 + 4294967296 * 0) + d6 := row_step h7 (by omega)
  have g6 : q6 + 4294967296 * (q7 + 4294967296 * (d7 + 4294967296 * 0)) = (p6 + 4294967296 * (p7 + 4294967296 * 0)) + (z6 + 4294967296 * (z7 + 4294967296 * 0)) + d5 := row_step h6 g7
  have g5 : q5 + 4294967296 * (q6 + 4294967296 * (q7 + 4294967296 * (d7 + 4294967296 * 0))) = (p5 + 4294967296 * (p6 + 4294967296 * (p7 + 4294967296 * 0))) + (z5 + 4294967296 * (z6 + 4294967296 * (z7 + 4294967296 * 0))) + d4 := row_step h5 g6
  have g4 : q4 + 4294967296 * (q5 + 4294967296 * (q6 + 4294967296 * (q7 + 4294967296 * (d7 + 4294967296 * 0)))) = (p4 + 4294967296 * (p5 + 4294967296 * (p6 + 4294967296 * (p7 + 4294967296 * 0)))) + (z4 + 4294967296 * (z5 + 4294967296 * (z6 + 4294967296 * (z7 + 4294967296 * 0)))) + d3 := row_step h4 g5
  have g3 : q3 + 4294967296 * (q4 + 4294967296 * (q5 + 4294967296 * (q6 + 4294967296 * (q7 + 4294967296 * (d7 + 4294967296 * 0))))) = (p3 + 4294967296 * (p4 + 4294967296 * (p5 + 4294967296 * (p6 + 4294967296 * (p7 + 4294967296 * 0))))) + (z3 + 4294967296 * (z4 + 4294967296 * (z5 + 4294967296 * (z6 + 4294967296 * (z7 + 4294967296 * 0))))) + d2 := row_step h3 g4
  have g2 : q2 + 4294967296 * (q3 + 4294967296 * (q4 + 4294967296 * (q5 + 4294967296 * (q6 + 4294967296 * (q7 + 4294967296 * (d7 + 4294967296 * 0)))))) = (p2 + 4294967296 * (p3 + 4294967296 * (p4 + 4294967296 * (p5 + 4294967296 * (p6 + 4294967296 * (p7 + 4294967296 * 0)))))) + (z2 + 4294967296 * (z3 + 4294967296 * (z4 + 4294967296 * (z5 + 4294967296 * (z6 + 4294967296 * (z7 + 4294967296 * 0)))))) + d1 := row_step h2 g3
  have g1 : q1 + 4294967296 * (q2 + 4294967296 * (q3 + 4294967296 * (q4 + 4294967296 * (q5 + 4294967296 * (q6 + 4294967296 * (q7 + 4294967296 * (d7 + 4294967296 * 0))))))) = (p1 + 4294967296 * (p2 + 4294967296 * (p3 + 4294967296 * (p4 + 4294967296 * (p5 + 4294967296 * (p6 + 4294967296 * (p7 + 4294967296 * 0))))))) + (z1 + 4294967296 * (z2 + 4294967296 * (z3 + 4294967296 * (z4 + 4294967296 * (z5 + 4294967296 * (z6 + 4294967296 * (z7 + 4294967296 * 0))))))) + d0 := row_step h1 g2
  have g0 : q0 + 4294967296 * (q1 + 4294967296 * (q2 + 4294967296 * (q3 + 4294967296 * (q4 + 4294967296 * (q5 + 4294967296 * (q6 + 4294967296 * (q7 + 4294967296 * (d7 + 4294967296 * 0)))))))) = (p0 + 4294967296 * (p1 + 4294967296 * (p2 + 4294967296 * (p3 + 4294967296 * (p4 + 4294967296 * (p5 + 4294967296 * (p6 + 4294967296 * (p7 + 4294967296 * 0)))))))) + (z0 + 4294967296 * (z1 + 4294967296 * (z2 + 4294967296 * (z3 + 4294967296 * (z4 + 4294967296 * (z5 + 4294967296 * (z6 + 4294967296 * (z7 + 4294967296 * 0)))))))) + 0 := row_step h0 g1
  simp only [num32]
  rw [g0, Nat.add_zero]
theorem col_law {X Y x0 x1 x2 x3 x4 x5 x6 x7 q0 q1 q2 q3 q4 q5 q6 q7 s0 s1 s2 s3 s4 s5 s6 s7 : Nat} (hX : num32 [x0, x1, x2, x3, x4, x5, x6, x7] = X) (h0 : q0 + 4294967296 * s0 = 0 + x0 * Y) (h1 : q1 + 4294967296 * s1 = s0 + x1 * Y) (h2 : q2 + 4294967296 * s2 = s1 + x2 * Y) (h3 : q3 + 4294967296 * s3 = s2 + x3 * Y)
    (h4 : q4 + 4294967296 * s4 = s3 + x4 * Y) (h5 : q5 + 4294967296 * s5 = s4 + x5 * Y) (h6 : q6 + 4294967296 * s6 = s5 + x6 * Y) (h7 : q7 + 4294967296 * s7 = s6 + x7 * Y) :
    q0 + 4294967296 * (q1 + 4294967296 * (q2 + 4294967296 * (q3 + 4294967296 * (q4 + 4294967296 * (q5 + 4294967296 * (q6 + 4294967296 * (q7 + 4294967296 * s7))))))) = X * Y := by
  have e : X * Y = x0 * Y + 4294967296 * (x1 * Y + 4294967296 * (x2 * Y + 4294967296 * (x3 * Y + 4294967296 * (x4 * Y + 4294967296 * (x5 * Y + 4294967296 * (x6 * Y + 4294967296 * (x7 * Y + 4294967296 * 0))))))) := by
    rw [← hX]; simp only [num32, Nat.add_mul, Nat.mul_assoc, Nat.mul_zero, Nat.add_zero]
  rw [e]
  have h := col_step h0 (col_step h1 (col_step h2 (col_step h3 (col_step h4 (col_step h5 (col_step h6 (col_step (W := 0) (A := s7) h7 rfl)))))))
  rw [Nat.zero_add] at h
  exact h
end
def Trm : Table := (T0.add 117 cRHalves).add 118 cRstep
theorem keepTrm : AllKeep Tryz.prog GT Trm := (keepT0.add keepsRHalves).add keepsRstep
/-- Two steps: 32 bits more. -/
theorem a_st {X : Ctx} (hS : X.S = Trm.spec) {P : Program} {t : TypeId} {K : Value → Value → Value → Value → Prop} {c1 c2 c3 c4 : Bool} {r p : Nat} (hr : r < lN) (hp : p < 4294967296) (h : ∀ r', r' < lN → r' = (p + 4294967296 * r) % lN → K (U (lb r' 0)) (U (lb r' 1)) (U (lb r' 2)) (U (lb r' 3))) :
    Ask (rBin P .shr t c1 c2 (U p) (U 16)) fun h1 => AskF X 118 [.agg #[U (lb r 0), U (lb r 1), U (lb r 2), U (lb r 3)], h1] fun v1 => Ask (rAgg 4 v1) fun v2 =>
      Ask (rSel (aggArr v2) 0 1 false) fun a => Ask (rSel (aggArr v2) 1 1 false) fun b => Ask (rSel (aggArr v2) 2 1 false) fun c => Ask (rSel (aggArr v2) 3 1 false) fun d =>
      Ask (rBin P .and t c3 c4 (U p) (U 65535)) fun lo => AskF X 118 [.agg #[a, b, c, d], lo] fun v3 => Ask (rAgg 4 v3) fun v4 =>
      Ask (rSel (aggArr v4) 0 1 false) fun a => Ask (rSel (aggArr v4) 1 1 false) fun b => Ask (rSel (aggArr v4) 2 1 false) fun c => Ask (rSel (aggArr v4) 3 1 false) fun d => K a b c d := by
  have fold : ∀ n, Value.agg #[U (lb n 0), U (lb n 1), U (lb n 2), U (lb n 3)] = S n := fun _ => rfl
  have hd : p / 2 ^ 16 < 65536 := by omega
  have hm : p % 2 ^ 16 < 65536 := by omega
  rw [ask_ushrU (by omega), fold]
  refine call_PE hS (T := Trm) (f := 118) rfl (r, p / 2 ^ 16) ⟨hr, hd⟩ ?_
  dsimp only
  rw [ask_aggS, ask_selS0, ask_selS1, ask_selS2, ask_selS3, ask_umask (k := 16) (by simp only [B64]; omega) (by decide) (by decide), fold]
  refine call_PE hS (T := Trm) (f := 118) rfl ((65536 * r + p / 2 ^ 16) % lN, p % 2 ^ 16) ⟨mod_l _, hm⟩ ?_
  dsimp only
  rw [ask_aggS, ask_selS0, ask_selS1, ask_selS2, ask_selS3]
  refine h _ (mod_l _) ?_
  rw [num16_step, show p % 2 ^ 16 + 65536 * (65536 * r + p / 2 ^ 16) = p + 4294967296 * r by omega]
theorem st_mod {r r' p : Nat} {L : List Nat} (h : r = (p + 4294967296 * r') % lN) (h' : r' = num32 L % lN) : r = num32 (p :: L) % lN := by
  rw [h, h', num32, Nat.add_mod, Nat.mul_mod, Nat.mod_mod, ← Nat.mul_mod, ← Nat.add_mod]
end Go.Vc
