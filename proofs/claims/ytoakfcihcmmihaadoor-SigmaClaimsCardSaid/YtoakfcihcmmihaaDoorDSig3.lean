/-
  SigmaClaims: walked.
-/
import Derived.Test.YtoakfcihcmmihaaDoorDSig2
namespace Go.Vc
open Go Go.Proofs Go.RowKit

def ann3 : Ann := ⟨[], [10, 9], 70, [(12, false), (13, false), (14, false), (15, false), (16, false), (17, false), (11, false)], [4, 5, 6, 7, 11, 12]⟩
def kb3_0 (b0 b1 b2 b3 b4 b5 b6 b7 b8 b9 : Nat) (x5 x6 x7 x8 x19 x20 x21 x22 x23 x24 x25 x26 x32 x39 x46 x49 x52 : Value) : List KB := [⟨b0, true, 24, (aggArr x5)⟩, ⟨b1, true, 24, (aggArr x6)⟩, ⟨b2, true, 24, (aggArr x7)⟩, ⟨b3, true, 24, (aggArr x8)⟩, ⟨b4, true, 29, #[x19, x20, x21, x22, x23, x24, x25, x26, (U 0), (U 0), (U 0), (U 0), (.slice none 0 0), (.slice none 0 0)]⟩, ⟨b5, true, 44, (aggArr x32)⟩, ⟨b6, true, 26, (aggArr x39)⟩, ⟨b7, true, 26, (aggArr x46)⟩, ⟨b8, true, 39, (aggArr x49)⟩, ⟨b9, true, 39, (aggArr x52)⟩]
theorem vc3 (X : Ctx) (β : Nat → Nat) (x0 x1 x2 x3 : Value) : (run Tryd.prog ann3 3 [.x (.v 0), .x (.v 1), .x (.v 2), .x (.v 3)] [] [] 5).den X (env0 [x0, x1, x2, x3] X.w0) 5 β 0 (fun _ _ _ => False) = (
  Ask (rAgg 4 x0) fun x5 =>
  AskNew X.w0 fun b0 =>
  Ask (rAgg 4 x1) fun x6 =>
  AskNew X.w0 fun b1 =>
  Ask (rAgg 4 x2) fun x7 =>
  AskNew X.w0 fun b2 =>
  Ask (rAgg 4 x3) fun x8 =>
  AskNew X.w0 fun b3 =>
  Ask (rAgg 4 x5) fun x9 =>
  Ask (rSel (aggArr x9) 0 1 false) fun x10 =>
  Ask (rSel (aggArr x9) 1 1 false) fun x11 =>
  Ask (rSel (aggArr x9) 2 1 false) fun x12 =>
  Ask (rSel (aggArr x9) 3 1 false) fun x13 =>
  Ask (rAgg 4 x6) fun x14 =>
  Ask (rSel (aggArr x14) 0 1 false) fun x15 =>
  Ask (rSel (aggArr x14) 1 1 false) fun x16 =>
  Ask (rSel (aggArr x14) 2 1 false) fun x17 =>
  Ask (rSel (aggArr x14) 3 1 false) fun x18 =>
  AskNew X.w0 fun b4 =>
  Ask (rPlain x10) fun x19 =>
  Ask (rPlain x11) fun x20 =>
  Ask (rPlain x12) fun x21 =>
  Ask (rPlain x13) fun x22 =>
  Ask (rPlain x15) fun x23 =>
  Ask (rPlain x16) fun x24 =>
  Ask (rPlain x17) fun x25 =>
  Ask (rPlain x18) fun x26 =>
  AskF X 10 [x5] fun x27 =>
  AskF X 9 [x27] fun x28 =>
  AskF X 10 [x6] fun x29 =>
  AskF X 9 [x29] fun x30 =>
  Ask (rBld X.P 44 #[(0, (J 2)), (1, x28), (2, x30)]) fun x31 =>
  AskNew X.w0 fun b5 =>
  Ask (rAgg 81 x31) fun x32 =>
  Ask (rAgg 4 x7) fun x33 =>
  Ask (rSel (aggArr x33) 0 1 false) fun x34 =>
  Ask (rSel (aggArr x33) 1 1 false) fun x35 =>
  Ask (rSel (aggArr x33) 2 1 false) fun x36 =>
  Ask (rSel (aggArr x33) 3 1 false) fun x37 =>
  Ask (rAgg 4 (.agg #[(U 0), (U 0), (U 0), (U 0)])) fun _ =>
  AskNew X.w0 fun b6 =>
  Ask (rAgg 4 (.agg #[x34, x35, x36, x37])) fun x39 =>
  Ask (rAgg 4 x8) fun x40 =>
  Ask (rSel (aggArr x40) 0 1 false) fun x41 =>
  Ask (rSel (aggArr x40) 1 1 false) fun x42 =>
  Ask (rSel (aggArr x40) 2 1 false) fun x43 =>
  Ask (rSel (aggArr x40) 3 1 false) fun x44 =>
  Ask (rAgg 4 (.agg #[(U 0), (U 0), (U 0), (U 0)])) fun _ =>
  AskNew X.w0 fun b7 =>
  Ask (rAgg 4 (.agg #[x41, x42, x43, x44])) fun x46 =>
  AskF X 10 [x7] fun x47 =>
  AskF X 9 [x47] fun x48 =>
  AskNew X.w0 fun b8 =>
  Ask (rAgg 26 x48) fun x49 =>
  AskF X 10 [x8] fun x50 =>
  AskF X 9 [x50] fun x51 =>
  AskNew X.w0 fun b9 =>
  Ask (rAgg 26 x51) fun x52 =>
  AskW X X.w0 [b9, b8, b7, b6, b5, b4] (kb3_0 b0 b1 b2 b3 b4 b5 b6 b7 b8 b9 x5 x6 x7 x8 x19 x20 x21 x22 x23 x24 x25 x26 x32 x39 x46 x49 x52) false 12 [x39, x46] fun x53 w53 =>
  AskW X w53 [] (kb3_0 b0 b1 b2 b3 b4 b5 b6 b7 b8 b9 x5 x6 x7 x8 x19 x20 x21 x22 x23 x24 x25 x26 x32 x39 x46 x49 x52) false 13 [x49, x52] fun x54 w54 =>
  AskW X w54 [] (kb3_0 b0 b1 b2 b3 b4 b5 b6 b7 b8 b9 x5 x6 x7 x8 x19 x20 x21 x22 x23 x24 x25 x26 x32 x39 x46 x49 x52) false 11 [x53, x54] fun x55 w55 =>
  AskGW X [(x55, true)] w55 [] (kb3_0 b0 b1 b2 b3 b4 b5 b6 b7 b8 b9 x5 x6 x7 x8 x19 x20 x21 x22 x23 x24 x25 x26 x32 x39 x46 x49 x52) false 14 [(.agg #[x19, x20, x21, x22, x23, x24, x25, x26, (U 0), (U 0), (U 0), (U 0), (.slice none 0 0), (.slice none 0 0)]), x39] fun x56 w56 =>
  AskGW X [(x55, true)] w56 [] (kb3_0 b0 b1 b2 b3 b4 b5 b6 b7 b8 b9 x5 x6 x7 x8 x19 x20 x21 x22 x23 x24 x25 x26 x32 x39 x46 x49 x52) false 15 [x32, x49] fun x57 w57 =>
  AskGW X [(x55, true)] w57 [] (kb3_0 b0 b1 b2 b3 b4 b5 b6 b7 b8 b9 x5 x6 x7 x8 x19 x20 x21 x22 x23 x24 x25 x26 x32 x39 x46 x49 x52) false 11 [x56, x57] fun x58 w58 =>
  Ask (rPick x55 x58 (.bool false)) fun x59 =>
  AskGW X [(x59, true)] w58 [] (kb3_0 b0 b1 b2 b3 b4 b5 b6 b7 b8 b9 x5 x6 x7 x8 x19 x20 x21 x22 x23 x24 x25 x26 x32 x39 x46 x49 x52) false 16 [(.agg #[x19, x20, x21, x22, x23, x24, x25, x26, (U 0), (U 0), (U 0), (U 0), (.slice none 0 0), (.slice none 0 0)]), x39, x46] fun x60 w60 =>
  AskGW X [(x59, true)] w60 [] (kb3_0 b0 b1 b2 b3 b4 b5 b6 b7 b8 b9 x5 x6 x7 x8 x19 x20 x21 x22 x23 x24 x25 x26 x32 x39 x46 x49 x52) false 17 [x32, x49, x52] fun x61 w61 =>
  AskGW X [(x59, true)] w61 [] (kb3_0 b0 b1 b2 b3 b4 b5 b6 b7 b8 b9 x5 x6 x7 x8 x19 x20 x21 x22 x23 x24 x25 x26 x32 x39 x46 x49 x52) false 11 [x60, x61] fun x62 w62 =>
  Ask (rPick x59 x62 (.bool false)) fun x63 =>
  Ret X w62 [] [] x63) := by kernel_rfl
def zE : List Value := [J 0, J 0, J 0, J 0, J 0, J 0, J 0, J 0, J 0, J 0, J 0, J 0, J 0, J 0, J 0, J 0, J 0, J 0, J 0, J 0, J 0, U 0, U 0, U 0, U 0, .slice none 0 0]
theorem one_zE : zE.all (·.oneCell') = true := by simp [zE, U, Value.oneCell']
def Tsc : Table := ((((((((T0.add 10 cRleast).add 9 cLineOfS).add 12 cKey).add 13 cRKey).add 14 cOpening).add 15 cROpening).add 16 cEqual).add 17 cREqual).add 11 cIsClaim
theorem keepTsc : AllKeep Tryd.prog GT Tsc := ((((((((keepT0.add keepsNum11).add keepsLineOf).add keepsKey).add keepsRKey).add keepsOpening).add keepsROpening).add keepsEqual).add keepsREqual).add keepsIsClaim
def cSigmaClaims : Contract := fnW (Cods.cons cS (Cods.cons cS (Cods.cons cS (Cods.cons cS Cods.nil)))) (fun _ _ => True) (fun _ _ v _ => v = .bool true)
theorem lm_idem (n : Nat) : n % lN % lN = n % lN := Nat.mod_mod _ _

theorem keepsSigmaClaims : Keeps1 Tryd.prog GT 3 cSigmaClaims := by
  refine keepsW (T := Tsc) (A := ann3) hMix keepTsc hGT (fun f hf => by
      simp only [ann3, List.mem_cons, List.not_mem_nil, or_false] at hf
      rcases hf with rfl | rfl <;> intros <;> kernel_rfl) (fun f hf => by
      simp only [ann3, List.mem_cons, List.not_mem_nil, or_false] at hf
      rcases hf with rfl | rfl | rfl | rfl | rfl | rfl | rfl <;> intros <;> kernel_rfl) fun args ⟨b, bl, x, y, _⟩ w0 hrd _ _ => ?_
  obtain ⟨_, _, rfl, ⟨rfl, hb⟩, _, _, rfl, ⟨rfl, hbl⟩, _, _, rfl, ⟨rfl, hx⟩, _, _, rfl, ⟨rfl, hy⟩, rfl⟩ := hrd
  dsimp only at hb hbl hx hy
  refine ⟨[.x (.v 0), .x (.v 1), .x (.v 2), .x (.v 3)], [], [], 5, env0 [S b, S bl, S x, S y] w0, fun b => b, 0, rfl, rfl, fun X hX => mem_none hX rfl, fun X hP hS hw hX hR => ?_⟩
  subst hw
  rw [vc3 X]
  iterate 4 (rw [ask_aggS]; intro _ _)
  rw [ask_aggS, ask_selS0, ask_selS1, ask_selS2, ask_selS3, ask_aggS, ask_selS0, ask_selS1, ask_selS2, ask_selS3]
  intro _ _
  rw [ask_uplain, ask_uplain, ask_uplain, ask_uplain, ask_uplain, ask_uplain, ask_uplain, ask_uplain]
  refine call_PE hS (T := Tsc) (f := 10) rfl b hb ?_
  refine call_PE hS (T := Tsc) (f := 9) rfl (b % lN) (lm_lt b) ?_
  refine call_PE hS (T := Tsc) (f := 10) rfl bl hbl ?_
  refine call_PE hS (T := Tsc) (f := 9) rfl (bl % lN) (lm_lt bl) ?_
  refine a_bld ([J 2] ++ encE (b % lN) ++ encE (bl % lN) ++ zE ++ [Value.slice none 0 0, Value.slice none 0 0]).toArray hP (by kernel_rfl) ?_
  intro _ _
  refine a_agg rfl (by simp only [List.all_append, List.all_cons, List.all_nil, one_encE, one_zE, oneJ2, Bool.and_true]; rfl) ?_
  rw [ask_aggS, ask_selS0, ask_selS1, ask_selS2, ask_selS3, ask_zero4]
  intro _ _
  have fold : ∀ n, Value.agg #[U (lb n 0), U (lb n 1), U (lb n 2), U (lb n 3)] = S n := fun _ => rfl
  have foldSet : Value.agg #[U (lb b 0), U (lb b 1), U (lb b 2), U (lb b 3), U (lb bl 0), U (lb bl 1), U (lb bl 2), U (lb bl 3), U 0, U 0, U 0, U 0, .slice none 0 0, .slice none 0 0] = SetV b bl 0 (.slice none 0 0) (.slice none 0 0) := rfl
  rw [fold, ask_aggS, ask_aggS, ask_selS0, ask_selS1, ask_selS2, ask_selS3, ask_zero4]
  intro _ _
  rw [fold, ask_aggS]
  refine call_PE hS (T := Tsc) (f := 10) rfl x hx ?_
  refine call_PE hS (T := Tsc) (f := 9) rfl (x % lN) (lm_lt x) ?_
  intro _ _
  rw [ask_aggE]
  refine call_PE hS (T := Tsc) (f := 10) rfl y hy ?_
  refine call_PE hS (T := Tsc) (f := 9) rfl (y % lN) (lm_lt y) ?_
  intro _ _
  rw [ask_aggE]
  have rset : cSet.rd X.w0 (SetV b bl 0 (.slice none 0 0) (.slice none 0 0)) (b, bl, 0, .slice none 0 0, .slice none 0 0) := ⟨rfl, hb, hbl, okS0, rfl, rfl⟩
  have rrset : cRSet.rd X.w0 (RSetV (b % lN) (bl % lN) zE (.slice none 0 0) (.slice none 0 0)) (b % lN, bl % lN, zE, .slice none 0 0, .slice none 0 0) := ⟨rfl, lm_lt b, lm_lt bl, rfl, one_zE, rfl, rfl⟩
  refine call_W hX hS (T := Tsc) (f := 12) rfl (x, y, ()) (fun w _ => ⟨⟨_, _, rfl, ⟨rfl, hx⟩, _, _, rfl, ⟨rfl, hy⟩, rfl⟩, trivial⟩) fun v1 _ u1 _ k1 _ _ p1 => ?_
  refine call_W hX hS (T := Tsc) (f := 13) rfl (x % lN, y % lN, ()) (fun w _ => ⟨⟨_, _, rfl, ⟨rfl, lm_lt x⟩, _, _, rfl, ⟨rfl, lm_lt y⟩, rfl⟩, trivial⟩) fun v2 _ u2 _ k2 _ s2 p2 => ?_
  refine call_W hX hS (T := Tsc) (f := 11) rfl (([[x]], [y]), ([[x % lN]], [y % lN]), ()) (fun w hw => ⟨⟨_, _, rfl, cClaim_stable _ _ _ _ (s2.trans0 hw.stp) p1, _, _, rfl, cRClaim_stable _ _ _ _ hw.stp p2, rfl⟩, trivial⟩) fun v3 _ u3 _ k3 _ _ p3 => ?_
  have e3 : v3 = .bool true := by rw [p3]; simp [lm]
  subst e3
  rw [foldSet]
  refine a_GW_on condsV1 ?_
  refine call_W hX hS (T := Tsc) (f := 14) rfl (_, x, ()) (fun w _ => ⟨⟨_, _, rfl, rset, _, _, rfl, ⟨rfl, hx⟩, rfl⟩, trivial⟩) fun v4 _ u4 _ k4 _ _ p4 => ?_
  refine a_GW_on condsV1 ?_
  refine call_W hX hS (T := Tsc) (f := 15) rfl (_, x % lN, ()) (fun w _ => ⟨⟨_, _, rfl, rrset, _, _, rfl, ⟨rfl, lm_lt x⟩, rfl⟩, trivial⟩) fun v5 _ u5 _ k5 _ s5 p5 => ?_
  refine a_GW_on condsV1 ?_
  refine call_W hX hS (T := Tsc) (f := 11) rfl (([[b, bl]], [x]), ([[b % lN, bl % lN]], [x % lN]), ()) (fun w hw => ⟨⟨_, _, rfl, cClaim_stable _ _ _ _ (s5.trans0 hw.stp) p4, _, _, rfl, cRClaim_stable _ _ _ _ hw.stp p5, rfl⟩, trivial⟩) fun v6 _ u6 _ k6 _ _ p6 => ?_
  have e6 : v6 = .bool true := by rw [p6]; simp [lm]
  subst e6
  rw [ask_pickT]
  refine a_GW_on condsV1 ?_
  refine call_W hX hS (T := Tsc) (f := 16) rfl (_, x, y, ()) (fun w _ => ⟨⟨_, _, rfl, rset, _, _, rfl, ⟨rfl, hx⟩, _, _, rfl, ⟨rfl, hy⟩, rfl⟩, trivial⟩) fun v7 _ u7 _ k7 _ _ p7 => ?_
  refine a_GW_on condsV1 ?_
  refine call_W hX hS (T := Tsc) (f := 17) rfl (_, x % lN, y % lN, ()) (fun w _ => ⟨⟨_, _, rfl, rrset, _, _, rfl, ⟨rfl, lm_lt x⟩, _, _, rfl, ⟨rfl, lm_lt y⟩, rfl⟩, trivial⟩) fun v8 _ u8 _ k8 _ s8 p8 => ?_
  refine a_GW_on condsV1 ?_
  refine call_W hX hS (T := Tsc) (f := 11) rfl (([[b, bl, 0], [b, 0, bl]], [x, y]), ([[b % lN, bl % lN, 0], [b % lN, 0, bl % lN]], [x % lN, y % lN]), ()) (fun w hw => ⟨⟨_, _, rfl, cClaim_stable _ _ _ _ (s8.trans0 hw.stp) p7, _, _, rfl, cRClaim_stable _ _ _ _ hw.stp p8, rfl⟩, trivial⟩) fun v9 _ u9 _ k9 _ _ p9 => ?_
  have e9 : v9 = .bool true := by rw [p9]; simp [lm]
  subst e9
  rw [ask_pickT]
  exact hR _ _ _ _ fun _ _ => rfl
#print axioms keepsSigmaClaims
end Go.Vc
