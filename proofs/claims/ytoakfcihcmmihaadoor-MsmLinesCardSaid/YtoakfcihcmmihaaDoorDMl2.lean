/-
  MsmLines: the law, walked.
-/
import Derived.Test.YtoakfcihcmmihaaDoorDMl
namespace Go.Vc
open Go Go.Proofs Go.RowKit

def Tlw : Table := ((((((((((((((((T0.add 46 cLeastS).add 36 cOfLine).add 37 cLineIs).add 38 cAddS).add 39 cEAdd).add 40 cNegS).add 41 cENeg).add 42 cDblS).add 43 cEDbl).add 44 cMulS).add 45 cETimes).add 47 cSameS).add 48 cESame).add 49 cEncS).add 50 cEEnc).add 51 cLDec).add 52 cEDec
theorem keepTlw : AllKeep Tryd.prog GT Tlw := ((((((((((((((((keepT0.add keepsNum7).add keepsOfLine).add keepsLineIs).add keepsLAdd).add keepsEAdd).add keepsLNeg).add keepsENeg).add keepsLDbl).add keepsEDbl).add keepsLTimes).add keepsETimes).add keepsLSame).add keepsESame).add keepsLEnc).add keepsEEnc).add keepsLDec).add keepsEDec
abbrev encL4 (p : Nat × Nat × Nat × Nat) : List Value := [S p.1, S p.2.1, S p.2.2.1, BS p.2.2.2]
abbrev domL4 (p : Nat × Nat × Nat × Nat) : Prop := p.1 < W256 ∧ p.2.1 < W256 ∧ p.2.2.1 < W256 ∧ p.2.2.2 < W256
theorem injL4 (a b : Nat × Nat × Nat × Nat) (ha : domL4 a) (hb : domL4 b) (h : encL4 a = encL4 b) : a = b := by
  simp only [encL4, List.cons.injEq, and_true] at h
  exact Prod.ext (S_inj ha.1 hb.1 h.1) (Prod.ext (S_inj ha.2.1 hb.2.1 h.2.1) (Prod.ext (S_inj ha.2.2.1 hb.2.2.1 h.2.2.1) (BS_inj ha.2.2.2 hb.2.2.2 h.2.2.2)))
theorem subL_W {a : Nat} : subL 0 a < W256 := l_W (subL_lt (show 0 < lN by decide) : subL 0 a < lN)

def ann7 : Ann := ⟨[], [36, 37, 38, 39, 40, 41, 42, 43, 44, 45, 46, 47, 48, 49, 50, 51, 52], 70, [], [4, 5, 6, 9, 10, 13]⟩
theorem vc7 (X : Ctx) (β : Nat → Nat) (x0 x1 x2 x3 : Value) : (run Tryd.prog ann7 7 [.x (.v 0), .x (.v 1), .x (.v 2), .x (.v 3)] [] [] 5).den X (env0 [x0, x1, x2, x3] X.w0) 5 β 0 (fun _ _ _ => False) = (
  Ask (rAgg 4 x0) fun x5 =>
  AskNew X.w0 fun _ =>
  Ask (rAgg 4 x1) fun x6 =>
  AskNew X.w0 fun _ =>
  Ask (rAgg 4 x2) fun x7 =>
  AskNew X.w0 fun _ =>
  Ask (rAgg 32 x3) fun x8 =>
  AskNew X.w0 fun _ =>
  Ask (rAgg 4 x5) fun x9 =>
  Ask (rSel (aggArr x9) 0 1 false) fun x10 =>
  Ask (rSel (aggArr x9) 1 1 false) fun x11 =>
  Ask (rSel (aggArr x9) 2 1 false) fun x12 =>
  Ask (rSel (aggArr x9) 3 1 false) fun x13 =>
  Ask (rAgg 4 x6) fun x14 =>
  Ask (rSel (aggArr x14) 0 1 false) fun x15 =>
  Ask (rSel (aggArr x14) 1 1 false) fun x16 =>
  Ask (rSel (aggArr x14) 2 1 false) fun x17 =>
  Ask (rSel (aggArr x14) 3 1 false) fun x18 =>
  Ask (rAgg 4 (.agg #[(U 0), (U 0), (U 0), (U 0)])) fun _ =>
  AskNew X.w0 fun b4 =>
  Ask (rAgg 4 (.agg #[(U 0), (U 0), (U 0), (U 0)])) fun _ =>
  AskNew X.w0 fun b5 =>
  Ask (rAgg 4 (.agg #[x10, x11, x12, x13])) fun x21 =>
  Ask (rAgg 4 (.agg #[x15, x16, x17, x18])) fun x22 =>
  AskF X 36 [x21] fun x23 =>
  AskF X 36 [x22] fun x24 =>
  AskNew X.w0 fun b6 =>
  AskNew X.w0 fun b7 =>
  Ask (rAgg 26 x23) fun x25 =>
  Ask (rAgg 26 x24) fun x26 =>
  AskF X 38 [x21, x22] fun x27 =>
  AskF X 39 [x25, x26] fun x28 =>
  AskF X 37 [x27, x28] fun x29 =>
  Ask (rUn X.P .not x29) fun x30 =>
  AskGF X [(x30, false)] 40 [x21] fun x31 =>
  AskGF X [(x30, false)] 41 [x25] fun x32 =>
  AskGF X [(x30, false)] 37 [x31, x32] fun x33 =>
  AskG [(x30, false)] (rUn X.P .not x33) fun x34 =>
  Ask (rPick x30 (.bool true) x34) fun x35 =>
  AskGF X [(x35, false)] 42 [x21] fun x36 =>
  AskGF X [(x35, false)] 43 [x25] fun x37 =>
  AskGF X [(x35, false)] 37 [x36, x37] fun x38 =>
  AskG [(x35, false)] (rUn X.P .not x38) fun x39 =>
  Ask (rPick x35 (.bool true) x39) fun x40 =>
  AskGF X [(x40, false)] 44 [x21, x7] fun x41 =>
  AskGF X [(x40, false)] 46 [x7] fun x42 =>
  AskGF X [(x40, false)] 45 [x25, x42] fun x43 =>
  AskGF X [(x40, false)] 37 [x41, x43] fun x44 =>
  AskG [(x40, false)] (rUn X.P .not x44) fun x45 =>
  Ask (rPick x40 (.bool true) x45) fun x46 =>
  (∃ t, x46 = .bool t) ∧ (x46 = .bool true →
    Ret X X.w0 [b7, b6, b5, b4] [] (.bool false)) ∧ (x46 = .bool false →
    AskF X 47 [x21, x22] fun x47 =>
    AskF X 48 [x25, x26] fun x48 =>
    Ask (rBin X.P .neq 4 false false x47 x48) fun x49 =>
    AskGF X [(x49, false)] 49 [x21] fun x50 =>
    AskGF X [(x49, false)] 50 [x25] fun x51 =>
    AskG [(x49, false)] (rBin X.P .neq 97 false false x50 x51) fun x52 =>
    Ask (rPick x49 (.bool true) x52) fun x53 =>
    (∃ t, x53 = .bool t) ∧ (x53 = .bool true →
      Ret X X.w0 [b7, b6, b5, b4] [] (.bool false)) ∧ (x53 = .bool false →
      AskF X 51 [x21, x8] fun x54 =>
      Ask (rExt X.P x54 0) fun x55 =>
      Ask (rExt X.P x54 1) fun x56 =>
      Ask (rAgg 4 (.agg #[(U 0), (U 0), (U 0), (U 0)])) fun _ =>
      AskNew X.w0 fun b8 =>
      Ask (rAgg 4 x55) fun x58 =>
      AskF X 52 [(J 2), x8] fun x59 =>
      Ask (rExt X.P x59 0) fun x60 =>
      Ask (rExt X.P x59 1) fun x61 =>
      AskNew X.w0 fun b9 =>
      Ask (rAgg 26 x60) fun x62 =>
      Ask (rBin X.P .neq 65 false false x56 x61) fun x63 =>
      AskGF X [(x63, false)] 37 [x58, x62] fun x64 =>
      AskG [(x63, false)] (rUn X.P .not x64) fun x65 =>
      Ask (rPick x63 (.bool true) x65) fun x66 =>
      (∃ t, x66 = .bool t) ∧ (x66 = .bool true →
        Ret X X.w0 [b9, b8, b7, b6, b5, b4] [] (.bool false)) ∧ (x66 = .bool false →
        AskF X 49 [x21] fun x67 =>
        AskF X 51 [x22, x67] fun x68 =>
        Ask (rExt X.P x68 0) fun x69 =>
        Ask (rExt X.P x68 1) fun x70 =>
        Ask (rAgg 4 x69) fun x71 =>
        Ask (rBin X.P .eql 65 false true x70 (J 0)) fun x72 =>
        AskGF X [(x72, true)] 47 [x71, x21] fun x73 =>
        Ask (rPick x72 x73 (.bool false)) fun x74 =>
        Ret X X.w0 [b8, b9, b8, b7, b6, b5, b4] [] x74)))) := by kernel_rfl
def cMsmLines : Contract := fnP encL4 domL4 (fun _ v => v = .bool true)
theorem keepsMsmLines : Keeps1 Tryd.prog GT 7 cMsmLines := by
  refine keepsP (T := Tlw) (A := ann7) injL4 hMix keepTlw hGT (fun f hf => by
      simp only [ann7, List.mem_cons, List.not_mem_nil, or_false] at hf
      rcases hf with rfl | rfl | rfl | rfl | rfl | rfl | rfl | rfl | rfl | rfl | rfl | rfl | rfl | rfl | rfl | rfl | rfl <;> intros <;> kernel_rfl) (fun f hf => by cases hf) fun ⟨a, b, k, c⟩ w0 ⟨ha, hb, hk, hc⟩ _ => ⟨[.x (.v 0), .x (.v 1), .x (.v 2), .x (.v 3)], [], [], 5, env0 [S a, S b, S k, BS c] w0, fun b => b, 0, rfl, rfl, fun X hX => mem_none hX rfl, fun X hP hS hw hX hR => ?_⟩
  subst hw
  dsimp only at ha hb hk hc
  have A := mod_l a
  have B' := mod_l b
  have N := mod_l k
  rw [vc7 X]
  rw [ask_aggS]; intro _ _; rw [ask_aggS]; intro _ _; rw [ask_aggS]; intro _ _; rw [ask_aggB]; intro _ _
  rw [ask_aggS, ask_selS0, ask_selS1, ask_selS2, ask_selS3, ask_aggS, ask_selS0, ask_selS1, ask_selS2, ask_selS3, ask_zero4]; intro _ _
  rw [ask_zero4]; intro _ _
  rw [foldS, foldS, ask_aggS, ask_aggS]
  refine call_PE hS (T := Tlw) (f := 36) rfl a ha ?_
  refine call_PE hS (T := Tlw) (f := 36) rfl b hb ?_
  intro _ _ _ _
  rw [ask_aggE, ask_aggE]
  -- the sum
  refine call_PE hS (T := Tlw) (f := 38) rfl (a, b) ⟨ha, hb⟩ ?_
  refine call_PE hS (T := Tlw) (f := 39) rfl (a % lN, b % lN) ⟨A, B'⟩ ?_
  dsimp only
  refine call_PE hS (T := Tlw) (f := 37) rfl ((a + b) % lN, (a % lN + b % lN) % lN) ⟨lm_lt _, lm_lt _⟩ ?_
  dsimp only
  rw [decide_eq_true (Nat.add_mod a b lN), ask_not]
  -- the inverse
  refine a_GF_on (by simp [condsV]) (call_PE hS (T := Tlw) (f := 40) rfl a ha ?_)
  refine a_GF_on (by simp [condsV]) (call_PE hS (T := Tlw) (f := 41) rfl (a % lN) A ?_)
  refine a_GF_on (by simp [condsV]) (call_PE hS (T := Tlw) (f := 37) rfl (subL 0 (a % lN), subL 0 (a % lN)) ⟨subL_W, subL_W⟩ ?_)
  dsimp only
  rw [decide_eq_true rfl]
  refine a_G_on (by simp [condsV]) ?_
  rw [ask_not, show (!true) = false from rfl, ask_pickF]
  -- the double
  refine a_GF_on (by simp [condsV]) (call_PE hS (T := Tlw) (f := 42) rfl a ha ?_)
  refine a_GF_on (by simp [condsV]) (call_PE hS (T := Tlw) (f := 43) rfl (a % lN) A ?_)
  refine a_GF_on (by simp [condsV]) (call_PE hS (T := Tlw) (f := 37) rfl ((a + a) % lN, (a % lN + a % lN) % lN) ⟨lm_lt _, lm_lt _⟩ ?_)
  dsimp only
  rw [decide_eq_true (Nat.add_mod a a lN)]
  refine a_G_on (by simp [condsV]) ?_
  rw [ask_not, show (!true) = false from rfl, ask_pickF]
  -- the multiple
  refine a_GF_on (by simp [condsV]) (call_PE hS (T := Tlw) (f := 44) rfl (a, k) ⟨ha, hk⟩ ?_)
  refine a_GF_on (by simp [condsV]) (call_PE hS (T := Tlw) (f := 46) rfl k hk ?_)
  refine a_GF_on (by simp [condsV]) (call_PE hS (T := Tlw) (f := 45) rfl (a % lN, k % lN) ⟨l_W A, l_W N⟩ ?_)
  dsimp only
  refine a_GF_on (by simp [condsV]) (call_PE hS (T := Tlw) (f := 37) rfl (a * k % lN, a % lN * (k % lN) % lN) ⟨lm_lt _, lm_lt _⟩ ?_)
  dsimp only
  rw [decide_eq_true (Nat.mul_mod a k lN)]
  refine a_G_on (by simp [condsV]) ?_
  rw [ask_not, show (!true) = false from rfl, ask_pickF]
  refine a_if (fun h => by cases h) fun _ => ?_
  -- the same, as bytes
  refine call_PE hS (T := Tlw) (f := 47) rfl (a, b) ⟨ha, hb⟩ ?_
  refine call_PE hS (T := Tlw) (f := 48) rfl (a % lN, b % lN) ⟨l_W A, l_W B'⟩ ?_
  dsimp only
  rw [hP, ask_neqBool, bne_self_eq_false]
  refine a_GF_on (by simp [condsV]) (call_PE hS (T := Tlw) (f := 49) rfl a ha ?_)
  refine a_GF_on (by simp [condsV]) (call_PE hS (T := Tlw) (f := 50) rfl (a % lN) (l_W A) ?_)
  refine a_G_on (by simp [condsV]) ?_
  rw [ask_neqB, ask_pickF]
  refine a_if (fun h => by cases h) fun _ => ?_
  -- bytes that came in, and bytes that went out
  refine call_PE hS (T := Tlw) (f := 51) rfl (a, c) ⟨ha, hc⟩ ?_
  dsimp only
  have hEnd : ∀ {bl : List Nat} {K : Value → Prop}, (∀ v, v = .bool true → Ret X X.w0 bl [] v) → AskF X 49 [S a] fun x67 => AskF X 51 [S b, x67] fun x68 => Ask (rExt Tryd.prog x68 0) fun x69 => Ask (rExt Tryd.prog x68 1) fun x70 => Ask (rAgg 4 x69) fun x71 =>
      Ask (rBin Tryd.prog .eql 65 false true x70 (J 0)) fun x72 => AskGF X [(x72, true)] 47 [x71, S a] fun x73 => Ask (rPick x72 x73 (.bool false)) fun x74 => Ret X X.w0 bl [] x74 := fun {bl K} hB => by
    refine call_PE hS (T := Tlw) (f := 49) rfl a ha ?_
    refine call_PE hS (T := Tlw) (f := 51) rfl (b, a % lN) ⟨hb, l_W A⟩ ?_
    dsimp only
    rw [if_pos A, ask_ext0, ask_ext1, ask_aggS, ask_eqlJ, decide_eq_true rfl]
    refine a_GF_on (by simp [condsV]) (call_PE hS (T := Tlw) (f := 47) rfl (a % lN, a) ⟨l_W A, ha⟩ ?_)
    dsimp only
    rw [ask_pickT]
    exact hB _ (by rw [Nat.mod_mod, decide_eq_true rfl])
  by_cases h : c < lN
  · rw [if_pos h, ask_ext0, ask_ext1, ask_zero4]; intro _ _
    rw [ask_aggS]
    refine call_PE hS (T := Tlw) (f := 52) rfl c hc ?_
    rw [if_pos h, ask_ext0, ask_ext1]; intro _ _
    rw [ask_aggE, ask_neqN]
    refine a_GF_on (by simp [condsV]) (call_PE hS (T := Tlw) (f := 37) rfl (c, c) ⟨hc, hc⟩ ?_)
    dsimp only
    rw [decide_eq_true rfl, decide_eq_true (rfl : c = c)]
    refine a_G_on (by simp [condsV]) ?_
    rw [ask_not, show (!true) = false from rfl, ask_pickF]
    refine a_if (fun h => by cases h) fun _ => ?_
    exact hEnd (K := fun _ => True) fun v hv => hR _ _ _ _ hv
  · rw [if_neg h, ask_ext0, ask_ext1, ask_zero4]; intro _ _
    rw [ask_aggS]
    refine call_PE hS (T := Tlw) (f := 52) rfl c hc ?_
    rw [if_neg h, ask_ext0, ask_ext1]; intro _ _
    rw [ask_aggE, ask_neqN]
    refine a_GF_on (by simp [condsV]) (call_PE hS (T := Tlw) (f := 37) rfl (0, 0) ⟨by decide, by decide⟩ ?_)
    dsimp only
    rw [decide_eq_true rfl, decide_eq_true (rfl : 0 = 0)]
    refine a_G_on (by simp [condsV]) ?_
    rw [ask_not, show (!true) = false from rfl, ask_pickF]
    refine a_if (fun h => by cases h) fun _ => ?_
    exact hEnd (K := fun _ => True) fun v hv => hR _ _ _ _ hv
#print axioms keepsMsmLines
end Go.Vc
