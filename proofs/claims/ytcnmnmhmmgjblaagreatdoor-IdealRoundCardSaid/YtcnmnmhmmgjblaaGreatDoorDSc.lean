/-
  The program's scalars: minus, plus, lower, choose by numbers; Add, Sub, Neg, Same.
-/
import Derived.Test.YtcnmnmhmmgjblaaGreatDoorDSig2
namespace Go.Vc
open Go Go.Proofs Go.RowKit
/-! ### the small functions by numbers -/
theorem N4_lb (n : Nat) (h : n < W256) : N4 (lb n 0) (lb n 1) (lb n 2) (lb n 3) = n := limbs_sum n h
theorem L4_S {a b c d : Nat} (h : lim a b c d) : L4 a b c d = S (N4 a b c d) := S_of h.1 h.2.1 h.2.2.1 h.2.2.2
theorem N4_ltW {a b c d : Nat} (h : lim a b c d) : N4 a b c d < W256 := num_lt h.1 h.2.1 h.2.2.1 h.2.2.2
def cMinusS : Contract := fnP enc2 dom2 (fun p v => v = .tuple #[S ((p.1 + W256 - p.2) % W256), U (if p.1 < p.2 then 1 else 0)])
theorem keepsMinus : Keeps1 Tryz.prog GT 100 cMinusS := keeps100.weaken.imp (fun args ⟨⟨a, b⟩, ⟨ha, hb⟩, e⟩ => ⟨⟨_, _, _, _, _, _, _, _, e, lim_lb a, lim_lb b⟩, fun v hv m hm hm' => by
    obtain rfl := inj2 m (a, b) hm ⟨ha, hb⟩ (hm'.symm.trans e)
    obtain ⟨d0, d1, d2, d3, c, rfl, hd, hc, hN⟩ := hv _ _ _ _ _ _ _ _ e
    have hl := N4_ltW hd
    rw [L4_S hd]
    rw [N4_lb a ha, N4_lb b hb, ← W256_eq] at hN
    dsimp only at ha hb ⊢
    generalize N4 d0 d1 d2 d3 = d at *
    have h1 : d = (a + W256 - b) % W256 := by simp only [W256] at *; omega
    have h2 : c = if a < b then 1 else 0 := by simp only [W256] at *; split <;> omega
    rw [h1, h2]⟩) (fun _ _ h => h)
def cPlusS : Contract := fnP enc2 dom2 (fun p v => v = .tuple #[S ((p.1 + p.2) % W256), U ((p.1 + p.2) / W256)])
theorem keepsPlus : Keeps1 Tryz.prog GT 84 cPlusS := keeps84.weaken.imp (fun args ⟨⟨a, b⟩, ⟨ha, hb⟩, e⟩ => ⟨⟨_, _, _, _, _, _, _, _, e, lim_lb a, lim_lb b⟩, fun v hv m hm hm' => by
    obtain rfl := inj2 m (a, b) hm ⟨ha, hb⟩ (hm'.symm.trans e)
    obtain ⟨d0, d1, d2, d3, c, rfl, hd, hc, hN⟩ := hv _ _ _ _ _ _ _ _ e
    have hl := N4_ltW hd
    rw [L4_S hd]
    rw [N4_lb a ha, N4_lb b hb, ← W256_eq] at hN
    dsimp only at ha hb ⊢
    generalize N4 d0 d1 d2 d3 = d at *
    have h1 : d = (a + b) % W256 := by simp only [W256] at *; omega
    have h2 : c = (a + b) / W256 := by simp only [W256] at *; omega
    rw [h1, h2]⟩) (fun _ _ h => h)
def low (n : Nat) : Nat := if n < lN then n else n - lN
theorem low_lt {n : Nat} (h : n < 2 * lN) : low n < lN := by unfold low; split <;> omega
theorem low_mod {n : Nat} (h : n < 2 * lN) : low n = n % lN := by
  unfold low
  split
  · rename_i h1; exact (Nat.mod_eq_of_lt h1).symm
  · rename_i h1; rw [Nat.mod_eq_sub_mod (by omega), Nat.mod_eq_of_lt (by omega)]
def cLowerS : Contract := fnP enc1 (· < W256) (fun n v => v = S (low n))
theorem keepsLower : Keeps1 Tryz.prog GT 85 cLowerS := keeps85.imp (fun args ⟨n, hn, ha⟩ => ⟨⟨_, _, _, _, ha, lim_lb n⟩, fun v hv m hm hm' => by
    obtain rfl := inj1 m n hm hn (hm'.symm.trans ha)
    obtain ⟨d0, d1, d2, d3, rfl, hd, hN⟩ := hv _ _ _ _ ha
    rw [L4_S hd, hN, N4_lb m hn]
    rfl⟩) (fun _ _ h => h)
abbrev enc3 (p : Nat × Nat × Nat) : List Value := [U p.1, S p.2.1, S p.2.2]
def cChooseS : Contract := fnP enc3 (fun p => (p.1 = 0 ∨ p.1 = B64 - 1) ∧ p.2.1 < W256 ∧ p.2.2 < W256) (fun p v => v = S (if p.1 = 0 then p.2.2 else p.2.1))
theorem keepsChoose : Keeps1 Tryz.prog GT 101 cChooseS := keeps101.weaken.imp (fun args ⟨⟨k, a, b⟩, ⟨hk, ha, hb⟩, e⟩ => ⟨⟨_, _, _, _, _, _, _, _, _, e, hk, lim_lb a, lim_lb b⟩, fun v hv ⟨k', a', b'⟩ ⟨_, ha', hb'⟩ hm' => by
    have e' := hm'.symm.trans e
    simp only [enc3, List.cons.injEq, and_true] at e'
    obtain rfl := U_inj e'.1
    obtain rfl := S_inj ha' ha e'.2.1
    obtain rfl := S_inj hb' hb e'.2.2
    rw [hv _ _ _ _ _ _ _ _ _ e]
    dsimp only
    split <;> rfl⟩) (fun _ _ h => h)
/-! ### sums -/
def Tsca : Table := ((((T0.add 100 cMinusS).add 84 cPlusS).add 85 cLowerS).add 101 cChooseS).add 71 cLeastS
theorem keepTsca : AllKeep Tryz.prog GT Tsca := ((((keepT0.add keepsMinus).add keepsPlus).add keepsLower).add keepsChoose).add keepsLeast
theorem ask_tabL {K : Value → Prop} : Ask (rSel (aggArr (.agg tabArr)) 0 4 true) K = K (S lN) := by
  rw [ask_tab0]
  have : L4 6346243789798364141 1503914060200516822 0 1152921504606846976 = S lN := L4_S ⟨by decide, by decide, by decide, by decide⟩
  rw [this]
theorem mod_l (n : Nat) : n % lN < lN := Nat.mod_lt _ (by decide)
theorem l_W {n : Nat} (h : n < lN) : n < W256 := Nat.lt_trans h lN_lt
def ann29 : Ann := ⟨[], [84, 85, 71], 70, [], [2, 3, 4, 5], none, [], []⟩
theorem vc29 (X : Ctx) (β : Nat → Nat) (x0 x1 : Value) : (run Tryz.prog ann29 29 [.x (.v 0), .x (.v 1)] [] [] 3).den X (env0 [x0, x1] X.w0) 3 β 0 (fun _ _ _ => False) = (
 Ask (rAgg 4 x0) fun x3 =>
 AskNew X.w0 fun _ =>
 Ask (rAgg 4 x1) fun x4 =>
 AskNew X.w0 fun _ =>
 Ask (rAgg 4 (.agg #[(U 0), (U 0), (U 0), (U 0)])) fun _ =>
 AskNew X.w0 fun b2 =>
 AskF X 71 [x3] fun x6 =>
 AskF X 71 [x4] fun x7 =>
 AskF X 84 [x6, x7] fun x8 =>
 Ask (rExt X.P x8 0) fun x9 =>
 Ask (rExt X.P x8 1) fun _ =>
 Ask (rAgg 4 (.agg #[(U 0), (U 0), (U 0), (U 0)])) fun _ =>
 AskNew X.w0 fun b3 =>
 Ask (rAgg 4 x9) fun x12 =>
 AskF X 85 [x12] fun x13 =>
 Ask (rAgg 4 x13) fun x14 =>
 Ret X X.w0 [b2, b3] [] x14) := by kernel_rfl
def cAddS : Contract := fnP enc2 dom2 (fun p v => v = S ((p.1 + p.2) % lN))
theorem keepsAdd : Keeps1 Tryz.prog GT 29 cAddS := by
  refine keepsP (T := Tsca) (A := ann29) inj2 hMix keepTsca hGT (fun f hf => by
      simp only [ann29, List.mem_cons, List.not_mem_nil, or_false] at hf
      rcases hf with rfl | rfl | rfl <;> intros <;> kernel_rfl) (fun f hf => by cases hf) fun ⟨a, b⟩ w0 ⟨ha, hb⟩ _ => ⟨[.x (.v 0), .x (.v 1)], [], [], 3, env0 [S a, S b] w0, fun b => b, 0, rfl, rfl, fun X hX => mem_none hX rfl, fun X hP hS hw hX hR => ?_⟩
  subst hw; dsimp only at ha hb hR
  rw [vc29 X]
  rw [ask_aggS]; intro _ _; rw [ask_aggS]; intro _ _; rw [ask_zero4]; intro _ _
  refine call_PE hS (T := Tsca) (f := 71) rfl a ha ?_
  refine call_PE hS (T := Tsca) (f := 71) rfl b hb ?_
  refine call_PE hS (T := Tsca) (f := 84) rfl (a % lN, b % lN) ⟨l_W (mod_l a), l_W (mod_l b)⟩ ?_
  dsimp only
  have h1 := mod_l a
  have h2 := mod_l b
  have hlt : a % lN + b % lN < 2 * lN := by omega
  have hw : a % lN + b % lN < W256 := Nat.lt_trans hlt (by decide)
  rw [ask_ext0, ask_ext1, Nat.mod_eq_of_lt hw, ask_zero4]; intro _ _
  rw [ask_aggS]
  refine call_PE hS (T := Tsca) (f := 85) rfl (a % lN + b % lN) hw ?_
  rw [ask_aggS]
  exact hR _ _ _ _ (by rw [low_mod hlt, ← Nat.add_mod])
def ann48 : Ann := ⟨[], [100, 84, 101, 71], 70, [], [2, 3, 4, 5, 7], none, [], []⟩
theorem vc48 (X : Ctx) (β : Nat → Nat) (x0 x1 x2 : Value) : (run Tryz.prog ann48 48 [.x (.v 0), .x (.v 1)] [some ⟨.wh 2, 16, 175, false⟩] [(0, 0)] 4).den X (env0 [x0, x1, x2] X.w0) 4 β 1 (fun _ _ _ => False) = (
 Ask (rAgg 4 x0) fun x4 =>
 AskNew X.w0 fun _ =>
 Ask (rAgg 4 x1) fun x5 =>
 AskNew X.w0 fun _ =>
 Ask (rAgg 4 (.agg #[(U 0), (U 0), (U 0), (U 0)])) fun _ =>
 AskNew X.w0 fun b3 =>
 AskF X 71 [x4] fun x7 =>
 AskF X 71 [x5] fun x8 =>
 AskF X 100 [x7, x8] fun x9 =>
 Ask (rExt X.P x9 0) fun x10 =>
 Ask (rExt X.P x9 1) fun x11 =>
 Ask (rAgg 4 (.agg #[(U 0), (U 0), (U 0), (U 0)])) fun _ =>
 AskNew X.w0 fun b4 =>
 Ask (rAgg 4 x10) fun x13 =>
 Ask (rSel (aggArr x2) 0 4 true) fun x14 =>
 AskF X 84 [x13, x14] fun x15 =>
 Ask (rExt X.P x15 0) fun x16 =>
 Ask (rExt X.P x15 1) fun _ =>
 Ask (rAgg 4 (.agg #[(U 0), (U 0), (U 0), (U 0)])) fun _ =>
 AskNew X.w0 fun b5 =>
 Ask (rAgg 4 x16) fun x19 =>
 Ask (rUn X.P .neg x11) fun x20 =>
 AskF X 101 [x20, x19, x13] fun x21 =>
 Ask (rAgg 4 x21) fun x22 =>
 Ret X X.w0 [b3, b5, b4] [] x22) := by kernel_rfl
/-- The difference, of least numbers. -/
def subL (a b : Nat) : Nat := if a < b then a + lN - b else a - b
theorem subL_lt {a b : Nat} (ha : a < lN) : subL a b < lN := by unfold subL; split <;> omega
def cSubS : Contract := fnP enc2 dom2 (fun p v => v = S (subL (p.1 % lN) (p.2 % lN)))
theorem keepsSub : Keeps1 Tryz.prog GT 48 cSubS := by
  refine keepsP (T := Tsca) (A := ann48) inj2 hMix keepTsca hGT (fun f hf => by
      simp only [ann48, List.mem_cons, List.not_mem_nil, or_false] at hf
      rcases hf with rfl | rfl | rfl | rfl <;> intros <;> kernel_rfl) (fun f hf => by cases hf) fun ⟨a, b⟩ w0 ⟨ha, hb⟩ hG => ⟨[.x (.v 0), .x (.v 1)], [some ⟨.wh 2, 16, 175, false⟩], [(0, 0)], 4, env0 ([S a, S b] ++ [.agg tabArr]) w0, fun b => b, 1, rfl, rfl, fun X hX => memT (k := 2) (xs := [S a, S b]) hX hG rfl, fun X hP hS hw hX hR => ?_⟩
  subst hw; dsimp only at ha hb hR
  simp only [List.cons_append, List.nil_append]
  rw [vc48 X]
  rw [ask_aggS]; intro _ _; rw [ask_aggS]; intro _ _; rw [ask_zero4]; intro _ _
  refine call_PE hS (T := Tsca) (f := 71) rfl a ha ?_
  refine call_PE hS (T := Tsca) (f := 71) rfl b hb ?_
  have h1 := mod_l a
  have h2 := mod_l b
  generalize a % lN = x at *
  generalize b % lN = y at *
  refine call_PE hS (T := Tsca) (f := 100) rfl (x, y) ⟨l_W h1, l_W h2⟩ ?_
  dsimp only
  rw [ask_ext0, ask_ext1, ask_zero4]; intro _ _
  rw [ask_aggS, ask_tabL]
  refine call_PE hS (T := Tsca) (f := 84) rfl ((x + W256 - y) % W256, lN) ⟨Nat.mod_lt _ (by decide), lN_lt⟩ ?_
  dsimp only
  rw [ask_ext0, ask_ext1, ask_zero4]; intro _ _
  rw [ask_aggS, ask_uneg (by split <;> decide)]
  have hm : (B64 - (if x < y then 1 else 0)) % B64 = 0 ∨ (B64 - (if x < y then 1 else 0)) % B64 = B64 - 1 := by split <;> simp
  refine call_PE hS (T := Tsca) (f := 101) rfl ((B64 - (if x < y then 1 else 0)) % B64, ((x + W256 - y) % W256 + lN) % W256, (x + W256 - y) % W256) ⟨hm, Nat.mod_lt _ (by decide), Nat.mod_lt _ (by decide)⟩ ?_
  dsimp only
  rw [ask_aggS]
  refine hR _ _ _ _ ?_
  have hl : lN < W256 := lN_lt
  unfold subL
  by_cases h : x < y
  · have e1 : (B64 - (if x < y then 1 else 0)) % B64 = B64 - 1 := by rw [if_pos h]; decide
    rw [e1, if_neg (by decide), if_pos h]
    refine congrArg S ?_
    generalize lN = L at *
    simp only [W256] at *; omega
  · have e1 : (B64 - (if x < y then 1 else 0)) % B64 = 0 := by rw [if_neg h]; decide
    rw [e1, if_pos rfl, if_neg h]
    refine congrArg S ?_
    generalize lN = L at *
    simp only [W256] at *; omega
def ann34 : Ann := ⟨[], [71], 70, [], [2, 3], none, [], []⟩
theorem vc34 (X : Ctx) (β : Nat → Nat) (x0 x1 : Value) : (run Tryz.prog ann34 34 [.x (.v 0), .x (.v 1)] [] [] 3).den X (env0 [x0, x1] X.w0) 3 β 0 (fun _ _ _ => False) = (
 Ask (rAgg 4 x0) fun x3 =>
 AskNew X.w0 fun _ =>
 Ask (rAgg 4 x1) fun x4 =>
 AskNew X.w0 fun _ =>
 AskF X 71 [x3] fun x5 =>
 AskF X 71 [x4] fun x6 =>
 Ask (rBin X.P .eql 29 false false x5 x6) fun x7 =>
 Ret X X.w0 [] [] x7) := by kernel_rfl
def cSameS : Contract := fnP enc2 dom2 (fun p v => v = .bool (decide (p.1 % lN = p.2 % lN)))
theorem keepsSame : Keeps1 Tryz.prog GT 34 cSameS := by
  refine keepsP (T := Tsca) (A := ann34) inj2 hMix keepTsca hGT (fun f hf => by
      simp only [ann34, List.mem_cons, List.not_mem_nil, or_false] at hf
      subst hf; intros; kernel_rfl) (fun f hf => by cases hf) fun ⟨a, b⟩ w0 ⟨ha, hb⟩ _ => ⟨[.x (.v 0), .x (.v 1)], [], [], 3, env0 [S a, S b] w0, fun b => b, 0, rfl, rfl, fun X hX => mem_none hX rfl, fun X hP hS hw hX hR => ?_⟩
  subst hw; dsimp only at ha hb hR
  rw [vc34 X]
  rw [ask_aggS]; intro _ _; rw [ask_aggS]; intro _ _
  refine call_PE hS (T := Tsca) (f := 71) rfl a ha ?_
  refine call_PE hS (T := Tsca) (f := 71) rfl b hb ?_
  rw [ask_eqlS (hP ▸ a4S) (lm_lt _) (lm_lt _)]
  exact hR _ _ _ _ rfl
end Go.Vc
