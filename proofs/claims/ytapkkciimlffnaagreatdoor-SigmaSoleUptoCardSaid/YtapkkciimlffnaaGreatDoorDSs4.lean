/-
  Claims of one element over the scalars (msm.Line): First, Answer, Accepts; alive.
-/
import Derived.Test.YtapkkciimlffnaaGreatDoorDSs3
namespace Go.Vc
open Go Go.Proofs Go.RowKit

theorem msL_none {w : World} {rows images ans : Value} {g x a : Nat} (h : cC1.rd w (.agg #[rows, images]) (g, x)) (ha : Ls encS okS w ans [a]) : cMsL.rd w (.iface 162 (.agg #[rows, images, ans])) ((g, x), none, a) := ⟨rows, images, ans, rfl, h, ha⟩
theorem msL_some {w : World} {rows images ans : Value} {g x c a : Nat} (h : cC1.rd w (.agg #[rows, images]) (g, x)) (hc : okS c) (ha : Ls encS okS w ans [a]) : cMsL.rd w (.iface 165 (.agg #[rows, images, U (lb c 0), U (lb c 1), U (lb c 2), U (lb c 3), ans])) ((g, x), some c, a) := ⟨rows, images, ans, rfl, h, hc, ha⟩

/-! ### First -/
def cFst1 : Contract := fnW (Cods.cons cC1 (Cods.cons cLS Cods.nil)) (fun p _ => p.2.1.length = 1) (fun p w v w' => ∃ o, v = .tuple #[o, J 0] ∧ ∀ a, p.2.1 = [a] → OwnL w.heap.size w' o (imL p.1.1 a))
def Tft1 : Table := (T0.add 83 cFit1).add 84 cFir1
theorem keepTft1 : AllKeep Tryz.prog GT Tft1 := (keepT0.add keepsFit1).add keepsFir1
def ann37 : Ann := ⟨[], [], 70, [(83, false), (84, false)], [], none, [], []⟩
def kb37_0 (b0 : Nat) (x4 x5 : Value) : List KB := [⟨b0, true, 93, #[x4, x5]⟩]
theorem vc37 (X : Ctx) (β : Nat → Nat) (x0 x1 : Value) : (run Tryz.prog ann37 37 [.x (.v 0), .x (.v 1)] [] [] 3).den X (env0 [x0, x1] X.w0) 3 β 0 (fun _ _ _ => False) = (
  Ask (rAgg 2 x0) fun x3 =>
  Ask (rSel (aggArr x3) 0 1 false) fun x4 =>
  Ask (rSel (aggArr x3) 1 1 false) fun x5 =>
  AskNew X.w0 fun b0 =>
  AskO X X.w0 [] (kb37_0 b0 x4 x5) false (Go.Op.buildSlice 151 1 #[(0, Go.Operand.tmp 7)]) 151 [(7, x1)] fun x6 w6 =>
  AskW X w6 [] (kb37_0 b0 x4 x5) false 83 [(.agg #[x4, x5]), x6] fun x7 w7 =>
  Ask (rUn X.P .not x7) fun x8 =>
  (∃ t, x8 = .bool t) ∧ (x8 = .bool true →
    Ret X w7 [] [] (.tuple #[(.slice none 0 0), (J 2)])) ∧ (x8 = .bool false →
    Ask (rPlain x1) fun x9 =>
    Ask (rGen X.P (Go.Op.makeInterface 162 (Go.Operand.tmp 13)) 183 [(13, (.agg #[x4, x5, x9]))]) fun x10 =>
    AskW X w7 [] (kb37_0 b0 x4 x5) false 84 [x10] fun x11 w11 =>
    Ret X w11 [] [] (.tuple #[x11, (J 0)]))) := by kernel_rfl
theorem keepsFst1 : Keeps1 Tryz.prog GT 37 cFst1 := by
  refine keepsW (T := Tft1) (A := ann37) hMix keepTft1 hGT (calls_of (by kernel_rfl)) (callsW_of (by kernel_rfl)) fun args ⟨⟨g, x⟩, la, _⟩ w0 hrd hpre hg => ?_
  obtain ⟨a, rfl⟩ : ∃ a, la = [a] := by
    match la, hpre with
    | [a], _ => exact ⟨a, rfl⟩
  obtain ⟨_, _, rfl, hcl, xa, _, rfl, ha, rfl⟩ := hrd
  dsimp only at hcl ha
  obtain ⟨rows, images, row, rfl, h1, h3, h2⟩ := c1_form hcl
  replace ha : Ls encS okS w0 xa [a] := ha
  obtain ⟨pa, ca, rfl, _⟩ := slAt_form ha.1
  refine ⟨[.x (.v 0), .x (.v 1)], [], [], 3, env0 [.agg #[rows, images], .slice pa 1 ca] w0, fun b => b, 0, rfl, rfl, fun X hX => mem_none hX rfl, fun X hP hS hw hX hR => ?_⟩
  subst hw; try dsimp only at hR
  rw [vc37 X]
  refine a_agg (cs := [rows, images]) rfl (by simp [slAt_one h1, slAt_one h2.1]) ?_
  iterate 2 refine a_sel1 rfl ?_
  intro b0 hb0
  refine a_build #[.slice pa 1 ca] hX hP tyLLS (by decide) (by decide) (by kernel_rfl) rfl (by decide) fun q w1 w1' hw1 k1 s1 su1 o1 => ?_
  refine call_W hX hS (T := Tft1) (f := 83) rfl ((g, x), [[a]], ()) (fun w hw => ⟨⟨_, _, rfl, cC1_stable _ _ _ _ (hw.kn.stp0 hX) hcl, _, _, rfl, LLs1 ((own_slAt o1).stp0 hw.stp) (show cLS.rd w _ [a] from ha.stp0 (hw.kn.stp0 hX)), rfl⟩, ⟨a, rfl⟩⟩) fun v w2 w2' hw2 k2 s2 su2 hv => ?_
  subst hv
  rw [ask_not, Bool.not_true]
  refine a_if (fun h => by cases h) fun _ => ?_
  refine a_plain rfl ?_
  rw [ask_makeI (by rw [hP]; exact makeIFl _)]
  refine call_W hX hS (T := Tft1) (f := 84) rfl (((g, x), none, a), ()) (fun w hw => ⟨⟨_, _, rfl, msL_none (cC1_stable _ _ _ _ (hw.kn.stp0 hX) hcl) (ha.stp0 (hw.kn.stp0 hX)), rfl⟩, trivial⟩) fun v w3 w3' hw3 k3 s3 su3 hv => ?_
  refine hR _ _ _ _ fun w4 hw4 => ⟨v, rfl, fun a' e => ?_⟩
  simp only [List.cons.injEq, and_true] at e
  subst e
  exact own_mono (own_stp0 (show OwnL w3.heap.size w3' v (imL g a) from hv) hw4.stp) hw3.sz0

/-! ### Answer -/
def ansL (k x c : Nat) : Nat := (k + c * x % lN) % lN
def cAns1 : Contract := fnW (Cods.cons cLS (Cods.cons cLS (Cods.cons cS Cods.nil))) (fun p _ => p.1.length = 1 ∧ p.2.1.length = 1) (fun p w v w' => ∃ o, v = .tuple #[o, J 0] ∧ ∀ k x, p.1 = [k] → p.2.1 = [x] → w'.ownsRow w.heap.size 25 4 o 1 (encS (ansL k x p.2.2.1)))
def Tan1 : Table := (T0.add 21 cAddS).add 49 cMulS
theorem keepTan1 : AllKeep Tryz.prog GT Tan1 := (keepT0.add keepsAdd).add keepsMul
def ann38 : Ann := ⟨[(5, ([8, 18], []))], [21, 49], 70, [], [5, 10], none, [], []⟩
def kb38_0 (b0 : Nat) (x4 : Value) : List KB := [⟨b0, true, 25, (aggArr x4)⟩]
def kb38_1 (b0 b1 : Nat) (x4 x16 : Value) : List KB := [⟨b0, true, 25, (aggArr x4)⟩, ⟨b1, true, 25, (aggArr x16)⟩]
theorem vc38 (X : Ctx) (β : Nat → Nat) (x0 x1 x2 : Value) : (run Tryz.prog ann38 38 [.x (.v 0), .x (.v 1), .x (.v 2)] [] [] 4).den X (env0 [x0, x1, x2] X.w0) 4 β 0 (fun _ _ _ => False) = (
  Ask (rAgg 4 x2) fun x4 =>
  AskNew X.w0 fun b0 =>
  Ask (rLen X.P 22 x0) fun x5 =>
  Ask (rLen X.P 22 x1) fun x6 =>
  Ask (rBin X.P .neq 3 false false x5 x6) fun x7 =>
  (∃ t, x7 = .bool t) ∧ (x7 = .bool true →
    Ret X X.w0 [] [] (.tuple #[(.slice none 0 0), (J 2)])) ∧ (x7 = .bool false →
    Ask (rLen X.P 22 x0) fun x8 =>
    ∃ (I0 : List Value → World → Prop) (μ0 : List Value → World → Nat), (∀ w, KnownV X X.w0 [] (kb38_0 b0 x4) w → I0 [(.slice none 0 0), (J 0)] w) ∧ ∀ x9 x10 w11, I0 [x9, x10] w11 →
      Ask (rBin X.P .lss 3 false false x10 x8) fun x12 =>
      (∃ t, x12 = .bool t) ∧ (x12 = .bool true →
        Ask (rIad X.P 22 x0 x10) fun x13 =>
        Ask (rLoad X w11 [] 25 x13) fun x14 =>
        Ask (rAgg 4 (.agg #[(U 0), (U 0), (U 0), (U 0)])) fun _ =>
        AskNew w11 fun b1 =>
        Ask (rAgg 4 x14) fun x16 =>
        Ask (rIad X.P 22 x1 x10) fun x17 =>
        Ask (rLoad X w11 [b1] 25 x17) fun x18 =>
        AskF X 49 [x4, x18] fun x19 =>
        AskF X 21 [x16, x19] fun x20 =>
        AskO X w11 [b1] (kb38_1 b0 b1 x4 x16) false (Go.Op.buildSlice 22 1 #[(0, Go.Operand.tmp 31)]) 22 [(31, x20)] fun x21 w21 =>
        AskO X w21 [] (kb38_1 b0 b1 x4 x16) true (appOp (.tmp 23) (.tmp 32) 22) 22 [(23, x9), (32, x21)] fun x22 w22 =>
        Ask (rBin X.P .add 3 false true x10 (J 1)) fun x23 =>
        Again X w22 [] [] fun w => I0 [x22, x23] w ∧ μ0 [x22, x23] w < μ0 [x9, x10] w11) ∧ (x12 = .bool false →
        Ret X w11 [] [] (.tuple #[x9, (J 0)])))) := by kernel_rfl
theorem keepsAns1 : Keeps1 Tryz.prog GT 38 cAns1 := by
  refine keepsW (T := Tan1) (A := ann38) hMix keepTan1 hGT (calls_of (by kernel_rfl)) (callsW_of (by kernel_rfl)) fun args ⟨lk, lx, c, _⟩ w0 hrd hpre hg => ?_
  obtain ⟨k, rfl⟩ : ∃ a, lk = [a] := by
    match lk, hpre.1 with
    | [a], _ => exact ⟨a, rfl⟩
  obtain ⟨x, rfl⟩ : ∃ a, lx = [a] := by
    match lx, hpre.2 with
    | [a], _ => exact ⟨a, rfl⟩
  obtain ⟨v1, _, rfl, r1, v2, _, rfl, r2, _, _, rfl, ⟨rfl, hc⟩, rfl⟩ := hrd
  dsimp only at r1 r2 hc
  replace r1 : Ls encS okS w0 v1 [k] := r1
  replace r2 : Ls encS okS w0 v2 [x] := r2
  have hk0 : okS k := r1.2 k (by simp)
  have hx0 : okS x := r2.2 x (by simp)
  refine ⟨[.x (.v 0), .x (.v 1), .x (.v 2)], [], [], 4, env0 [v1, v2, S c] w0, fun b => b, 0, rfl, rfl, fun X hX => mem_none hX rfl, fun X hP hS hw hX hR => ?_⟩
  subst hw; try dsimp only at hR
  rw [vc38 X]
  rw [ask_aggS]; intro b0 hb0
  refine a_len (n := 1) hP tyS' r1.1 ?_
  refine a_len (n := 1) hP tyS' r2.1 ?_
  rw [ask_neqN, decide_eq_true rfl, Bool.not_true]
  refine a_if (fun h => by cases h) fun _ => ?_
  refine a_len (n := 1) hP tyS' r1.1 ?_
  refine ⟨fun q w => ∃ i o, q = [o, J i] ∧ i ≤ 1 ∧ Kn X w ∧ (i = 0 → o = .slice none 0 0) ∧ (i = 1 → w.ownsRow X.w0.heap.size 25 4 o 1 (encS (ansL k x c))), fun q _ => match q with | [_, i] => 1 - intNat i | _ => 0,
    fun w hw => ⟨0, _, rfl, Nat.zero_le _, hw.kn, fun _ => rfl, fun h => by cases h⟩, ?_⟩
  rintro _ _ w ⟨i, o, he, hi, hk, hi0, hi1⟩
  simp only [List.cons.injEq, and_true] at he
  obtain ⟨rfl, rfl⟩ := he
  rw [ask_lssN]
  refine a_ifD (fun hlt => ?_) fun hge => ?_
  · obtain rfl : i = 0 := Nat.lt_one_iff.1 hlt
    obtain rfl := hi0 rfl
    refine ld_S (l := [k]) hP hk (r1.1.stp0 (hk.stp0 hX)) rfl rfl (by simp) (fun _ _ => List.not_mem_nil) ?_
    rw [ask_zero4]; intro b1 hb1
    rw [ask_aggS]
    refine ld_S (l := [x]) hP hk (r2.1.stp0 (hk.stp0 hX)) rfl rfl (by simp) (slAt_off (r2.1.stp0 (hk.stp0 hX)) (by simp [encS]) (all1 hb1)) ?_
    refine call_PE hS (T := Tan1) (f := 49) rfl (c, x) ⟨hc, hx0⟩ ?_
    refine call_PE hS (T := Tan1) (f := 21) rfl (k, c * x % lN) ⟨hk0, Nat.lt_trans (Nat.mod_lt _ (by decide)) (by decide)⟩ ?_
    refine a_build (encS (ansL k x c)).toArray hX hP tyS' (by decide) (by decide) (by kernel_rfl) rfl (by decide) fun q w4 w4' hw4 k4 s4 su4 o4 => ?_
    refine a_append (v := .slice none 0 0) (n := 0) (m := 1) (base := w4.heap.size) hX hP tyS' rfl rfl rfl (by decide) hw4.sz0 s4.size (World.ownsRow_nil _ _ _ _) (fun w5 hw5 => (own_slAt o4).stp0 hw5.stp) rfl (fun c hc => List.all_eq_true.1 (one_encS _) c hc) (fun _ h => by cases h) (fun _ _ _ h => by cases h) (by decide) (by decide) fun o' w5 w5' hw5 k5 s5 su5 o5 _ => ?_
    rw [ask_succ (by decide)]
    intro w6 hw6
    exact ⟨⟨1, o', rfl, by decide, hw6.kn, (fun h => by cases h), fun _ => own_mono (own_stp0 o5 hw6.stp) hw4.sz0⟩, by simp [intNat]⟩
  · obtain rfl : i = 1 := by
      have : ¬ i < 1 := hge
      omega
    refine hR _ _ _ _ fun w2 hw2 => ⟨_, rfl, fun k' x' e1 e2 => ?_⟩
    simp only [List.cons.injEq, and_true] at e1 e2
    subst e1 e2
    exact own_stp0 (hi1 rfl) hw2.stp
#print axioms keepsAns1

/-! ### Accepts -/
def cAcc1 : Contract := fnW (Cods.cons cC1 (Cods.cons cLS (Cods.cons cS (Cods.cons cLS Cods.nil)))) (fun p _ => p.2.1.length = 1 ∧ p.2.2.2.1.length = 1)
  (fun p _ v _ => ∀ m a, p.2.1 = [m] → p.2.2.2.1 = [a] → v = J (if firL (p.1, some p.2.2.1, a) % lN = m % lN then 0 else 111))
def Tal1 : Table := ((T0.add 83 cFit1).add 84 cFir1).add 85 cSam1
theorem keepTal1 : AllKeep Tryz.prog GT Tal1 := ((keepT0.add keepsFit1).add keepsFir1).add keepsSam1
theorem firL_lt (p : (Nat × Nat) × Option Nat × Nat) : firL p < W256 := by
  obtain ⟨q, oc, a⟩ := p
  cases oc with
  | none => exact imL_lt _ _
  | some c => exact Nat.lt_trans (Nat.mod_lt _ (by decide)) (by decide)
def ann39 : Ann := ⟨[], [], 70, [(83, false), (84, false), (85, false)], [6], none, [], []⟩
def kb39_0 (b0 b1 : Nat) (x6 x7 x8 : Value) : List KB := [⟨b0, true, 93, #[x6, x7]⟩, ⟨b1, true, 25, (aggArr x8)⟩]
theorem vc39 (X : Ctx) (β : Nat → Nat) (x0 x1 x2 x3 : Value) : (run Tryz.prog ann39 39 [.x (.v 0), .x (.v 1), .x (.v 2), .x (.v 3)] [] [] 5).den X (env0 [x0, x1, x2, x3] X.w0) 5 β 0 (fun _ _ _ => False) = (
  Ask (rAgg 2 x0) fun x5 =>
  Ask (rSel (aggArr x5) 0 1 false) fun x6 =>
  Ask (rSel (aggArr x5) 1 1 false) fun x7 =>
  AskNew X.w0 fun b0 =>
  Ask (rAgg 4 x2) fun x8 =>
  AskNew X.w0 fun b1 =>
  AskO X X.w0 [] (kb39_0 b0 b1 x6 x7 x8) false (Go.Op.buildSlice 151 1 #[(0, Go.Operand.tmp 10)]) 151 [(10, x3)] fun x9 w9 =>
  AskW X w9 [] (kb39_0 b0 b1 x6 x7 x8) false 83 [(.agg #[x6, x7]), x9] fun x10 w10 =>
  Ask (rUn X.P .not x10) fun x11 =>
  AskG [(x11, false)] (rLen X.P 49 x1) fun x12 =>
  AskG [(x11, false)] (rLen X.P 91 x6) fun x13 =>
  AskG [(x11, false)] (rBin X.P .neq 3 false false x12 x13) fun x14 =>
  Ask (rPick x11 (.bool true) x14) fun x15 =>
  (∃ t, x15 = .bool t) ∧ (x15 = .bool true →
    Ret X w10 [] [] (J 2)) ∧ (x15 = .bool false →
    Ask (rAgg 4 x8) fun x16 =>
    Ask (rSel (aggArr x16) 0 1 false) fun x17 =>
    Ask (rSel (aggArr x16) 1 1 false) fun x18 =>
    Ask (rSel (aggArr x16) 2 1 false) fun x19 =>
    Ask (rSel (aggArr x16) 3 1 false) fun x20 =>
    Ask (rPlain x3) fun x21 =>
    Ask (rGen X.P (Go.Op.makeInterface 165 (Go.Operand.tmp 25)) 183 [(25, (.agg #[x6, x7, x17, x18, x19, x20, x21]))]) fun x22 =>
    AskW X w10 [] (kb39_0 b0 b1 x6 x7 x8) false 84 [x22] fun x23 w23 =>
    AskW X w23 [] (kb39_0 b0 b1 x6 x7 x8) false 85 [x23, x1] fun x24 w24 =>
    Ask (rUn X.P .not x24) fun x25 =>
    (∃ t, x25 = .bool t) ∧ (x25 = .bool true →
      Ret X w24 [] [] (J 111)) ∧ (x25 = .bool false →
      Ret X w24 [] [] (J 0)))) := by kernel_rfl
theorem keepsAcc1 : Keeps1 Tryz.prog GT 39 cAcc1 := by
  refine keepsW (T := Tal1) (A := ann39) hMix keepTal1 hGT (calls_of (by kernel_rfl)) (callsW_of (by kernel_rfl)) fun args ⟨⟨g, x⟩, lm, c, la, _⟩ w0 hrd hpre hg => ?_
  obtain ⟨m, rfl⟩ : ∃ a, lm = [a] := by
    match lm, hpre.1 with
    | [a], _ => exact ⟨a, rfl⟩
  obtain ⟨a, rfl⟩ : ∃ a, la = [a] := by
    match la, hpre.2 with
    | [a], _ => exact ⟨a, rfl⟩
  obtain ⟨_, _, rfl, hcl, fi, _, rfl, hf, _, _, rfl, ⟨rfl, hc⟩, xa, _, rfl, ha, rfl⟩ := hrd
  dsimp only at hcl hf hc ha
  obtain ⟨rows, images, row, rfl, h1, h3, h2⟩ := c1_form hcl
  replace ha : Ls encS okS w0 xa [a] := ha
  replace hf : Ls encS okS w0 fi [m] := hf
  obtain ⟨pa, ca, rfl, _⟩ := slAt_form ha.1
  refine ⟨[.x (.v 0), .x (.v 1), .x (.v 2), .x (.v 3)], [], [], 5, env0 [.agg #[rows, images], fi, S c, .slice pa 1 ca] w0, fun b => b, 0, rfl, rfl, fun X hX => mem_none hX rfl, fun X hP hS hw hX hR => ?_⟩
  subst hw; try dsimp only at hR
  rw [vc39 X]
  refine a_agg (cs := [rows, images]) rfl (by simp [slAt_one h1, slAt_one h2.1]) ?_
  iterate 2 refine a_sel1 rfl ?_
  intro b0 hb0
  rw [ask_aggS]; intro b1 hb1
  refine a_build #[.slice pa 1 ca] hX hP tyLLS (by decide) (by decide) (by kernel_rfl) rfl (by decide) fun q w1 w1' hw1 k1 s1 su1 o1 => ?_
  refine call_W hX hS (T := Tal1) (f := 83) rfl ((g, x), [[a]], ()) (fun w hw => ⟨⟨_, _, rfl, cC1_stable _ _ _ _ (hw.kn.stp0 hX) hcl, _, _, rfl, LLs1 ((own_slAt o1).stp0 hw.stp) (show cLS.rd w _ [a] from ha.stp0 (hw.kn.stp0 hX)), rfl⟩, ⟨a, rfl⟩⟩) fun v w2 w2' hw2 k2 s2 su2 hv => ?_
  subst hv
  rw [ask_not, Bool.not_true]
  refine a_G_on condsV1 (a_len (n := 1) hP tyL hf.1 ?_)
  refine a_G_on condsV1 (a_len hP tyLL h1 ?_)
  refine a_G_on condsV1 ?_
  rw [ask_neqN, decide_eq_true rfl, Bool.not_true, ask_pickF]
  refine a_if (fun h => by cases h) fun _ => ?_
  rw [ask_aggS, ask_selS0, ask_selS1, ask_selS2, ask_selS3]
  refine a_plain rfl ?_
  rw [ask_makeI (by rw [hP]; exact makeIMl _)]
  refine call_W hX hS (T := Tal1) (f := 84) rfl (((g, x), some c, a), ()) (fun w hw => ⟨⟨_, _, rfl, msL_some (cC1_stable _ _ _ _ (hw.kn.stp0 hX) hcl) hc (ha.stp0 (hw.kn.stp0 hX)), rfl⟩, trivial⟩) fun v w3 w3' hw3 k3 s3 su3 hv => ?_
  replace hv : OwnL w3.heap.size w3' v (firL ((g, x), some c, a)) := hv
  refine call_W hX hS (T := Tal1) (f := 85) rfl ([firL ((g, x), some c, a)], [m], ()) (fun w hw => ⟨⟨_, _, rfl, (show Ls encS okS w v _ from ⟨by simpa using (own_slAt hv).stp0 hw.stp, fun z hz => by
    simp only [List.mem_singleton] at hz
    subst hz
    exact firL_lt _⟩), _, _, rfl, hf.stp0 (hw.kn.stp0 hX), rfl⟩, rfl, rfl⟩) fun v4 w4 w4' hw4 k4 s4 su4 hv4 => ?_
  obtain rfl := hv4 _ _ rfl rfl
  rw [ask_not]
  have fin : ∀ u ow bl n, n = (if firL ((g, x), some c, a) % lN = m % lN then 0 else 111) → Ret X u ow bl (J n) := fun u ow bl n e => hR _ _ _ _ fun _ _ m' a' e1 e2 => by
    simp only [List.cons.injEq, and_true] at e1 e2
    subst e1 e2
    rw [e]
  refine a_ifN (fun hf => ?_) fun hf => ?_
  · exact fin _ _ _ _ (if_neg hf).symm
  · exact fin _ _ _ _ (if_pos hf).symm
#print axioms keepsAcc1

/-! ### alive -/
theorem cC1_fresh {u w : World} {v : Value} {p : Nat × Nat} {b : Nat} (h : cC1.rd u v p) (hs : Stp [b] u w) (hb : u.heap.size ≤ b) : cC1.rd w v p := by
  obtain ⟨rows, images, row, rfl, h1, h3, h2⟩ := c1_form h
  have off : ∀ {q : Value} {n : Nat} {xs : List Value}, SlAt u q n xs → SlAt w q n xs := fun h => h.stp3 hs fun x _ hlt hm => by simp at hm; omega
  exact ⟨rows, images, rfl, LLs1 (off h1) (show Ls encS okS w row _ from ⟨off h3.1, h3.2⟩), off h2.1, h2.2⟩
section
variable {X : Ctx}
theorem ld_SG {u : World} {v : Value} {xs : List Value} {l : List Nat} {n i : Nat} {ow : List Nat} {g : List (Value × Bool)} {K : Value → Prop} (hP : X.P = Tryz.prog) (hk : Kn X u) (h : SlAt u v n xs) (hx : xs = l.flatMap encS) (hn : l.length = n) (hi : i < l.length) (how : ∀ b, v.ownBlock = some b → b ∉ ow) (hg : condsV g)
    (hK : K (S l[i])) : AskG g (rIad X.P 22 v (J i)) fun p => AskG g (rLoad X u ow 25 p) K := by
  subst hx
  refine a_G_on hg (a_iadN hP tyS h (by omega) (a_G_on hg ?_))
  refine a_load_agg (cs := encS l[i]) hk h (by rw [hP]; exact aggS) (by rw [hP]; exact szS) how (by simp [encS]) (flat_at encS_len l i _ (List.getElem?_eq_getElem hi)) ?_
  exact hK
theorem a_GO_on {g : List (Value × Bool)} {u : World} {ow : List Nat} {bl : List KB} {md : Bool} {op : Op} {ty : TypeId} {args : List (Nat × Value)} {KW : Value → World → Prop} (h : condsV g) (hA : AskO X u ow bl md op ty args KW) : AskGO X g u ow bl md op ty args KW := ⟨fun _ => hA.1, fun v hv => hA.2 v (hv.1 h)⟩
end
def cAlive11 : Contract := fnW cVoidG (fun _ _ => True) (fun _ _ v _ => v = .bool true)
def Tal : Table := (((((T0.add 36 cKey).add 37 cFst1).add 38 cAns1).add 39 cAcc1).add 7 cRInt).add 8 cSameS
theorem keepTal : AllKeep Tryz.prog GT Tal := (((((keepT0.add keepsKey).add keepsFst1).add keepsAns1).add keepsAcc1).add keepsSInt).add keepsSame
theorem lsOne {w : World} {o : Value} {n lo : Nat} {e : TypeId} (h : w.ownsRow lo e 4 o 1 (encS n)) (hn : okS n) : Ls encS okS w o [n] := ⟨by simpa using own_slAt h, fun z hz => by
  simp only [List.mem_singleton] at hz
  subst hz; exact hn⟩
def ann10 : Ann := ⟨[], [7, 8], 70, [(36, false), (37, false), (38, false), (39, false)], [], none, [], []⟩
def kb10_0 (b0 : Nat) (x15 x16 : Value) : List KB := [⟨b0, true, 93, #[x15, x16]⟩]
theorem vc10 (X : Ctx) (β : Nat → Nat)  : (run Tryz.prog ann10 10 [] [] [] 1).den X (env0 [] X.w0) 1 β 0 (fun _ _ _ => False) = (
  AskF X 7 [(U 1)] fun x1 =>
  Ask (rAgg 4 x1) fun x2 =>
  Ask (rSel (aggArr x2) 0 1 false) fun x3 =>
  Ask (rSel (aggArr x2) 1 1 false) fun x4 =>
  Ask (rSel (aggArr x2) 2 1 false) fun x5 =>
  Ask (rSel (aggArr x2) 3 1 false) fun x6 =>
  AskF X 7 [(U 5)] fun x7 =>
  Ask (rAgg 4 x7) fun x8 =>
  Ask (rSel (aggArr x8) 0 1 false) fun x9 =>
  Ask (rSel (aggArr x8) 1 1 false) fun x10 =>
  Ask (rSel (aggArr x8) 2 1 false) fun x11 =>
  Ask (rSel (aggArr x8) 3 1 false) fun x12 =>
  AskW X X.w0 [] [] false 36 [(.agg #[x3, x4, x5, x6]), (.agg #[x9, x10, x11, x12])] fun x13 w13 =>
  AskNew w13 fun b0 =>
  Ask (rAgg 2 x13) fun x14 =>
  Ask (rSel (aggArr x14) 0 1 false) fun x15 =>
  Ask (rSel (aggArr x14) 1 1 false) fun x16 =>
  AskF X 7 [(U 3)] fun x17 =>
  AskO X w13 [b0] (kb10_0 b0 x15 x16) false (Go.Op.buildSlice 22 1 #[(0, Go.Operand.tmp 13)]) 22 [(13, x17)] fun x18 w18 =>
  AskW X w18 [] (kb10_0 b0 x15 x16) false 37 [(.agg #[x15, x16]), x18] fun x19 w19 =>
  Ask (rExt X.P x19 0) fun x20 =>
  Ask (rExt X.P x19 1) fun x21 =>
  AskF X 7 [(U 3)] fun x22 =>
  AskO X w19 [] (kb10_0 b0 x15 x16) false (Go.Op.buildSlice 22 1 #[(0, Go.Operand.tmp 19)]) 22 [(19, x22)] fun x23 w23 =>
  AskF X 7 [(U 5)] fun x24 =>
  AskO X w23 [] (kb10_0 b0 x15 x16) false (Go.Op.buildSlice 22 1 #[(0, Go.Operand.tmp 21)]) 22 [(21, x24)] fun x25 w25 =>
  AskF X 7 [(U 2)] fun x26 =>
  AskW X w25 [] (kb10_0 b0 x15 x16) false 38 [x23, x25, x26] fun x27 w27 =>
  Ask (rExt X.P x27 0) fun x28 =>
  Ask (rExt X.P x27 1) fun x29 =>
  Ask (rBin X.P .neq 3 false true x21 (J 0)) fun x30 =>
  AskG [(x30, false)] (rBin X.P .neq 3 false true x29 (J 0)) fun x31 =>
  Ask (rPick x30 (.bool true) x31) fun x32 =>
  AskG [(x32, false)] (rLen X.P 49 x20) fun x33 =>
  AskG [(x32, false)] (rBin X.P .neq 3 false true x33 (J 1)) fun x34 =>
  Ask (rPick x32 (.bool true) x34) fun x35 =>
  AskG [(x35, false)] (rLen X.P 22 x28) fun x36 =>
  AskG [(x35, false)] (rBin X.P .neq 3 false true x36 (J 1)) fun x37 =>
  Ask (rPick x35 (.bool true) x37) fun x38 =>
  AskG [(x38, false)] (rIad X.P 22 x28 (J 0)) fun x39 =>
  AskG [(x38, false)] (rLoad X w27 [] 25 x39) fun x40 =>
  AskGF X [(x38, false)] 7 [(U 13)] fun x41 =>
  AskGF X [(x38, false)] 8 [x40, x41] fun x42 =>
  AskG [(x38, false)] (rUn X.P .not x42) fun x43 =>
  Ask (rPick x38 (.bool true) x43) fun x44 =>
  (∃ t, x44 = .bool t) ∧ (x44 = .bool true →
    Ret X w27 [] [] (.bool false)) ∧ (x44 = .bool false →
    AskF X 7 [(U 2)] fun x45 =>
    AskW X w27 [] (kb10_0 b0 x15 x16) false 39 [(.agg #[x15, x16]), x20, x45, x28] fun x46 w46 =>
    Ask (rBin X.P .eql 3 false true x46 (J 0)) fun x47 =>
    AskGF X [(x47, true)] 7 [(U 2)] fun x48 =>
    AskGF X [(x47, true)] 7 [(U 12)] fun x49 =>
    AskGO X [(x47, true)] w46 [] (kb10_0 b0 x15 x16) false (Go.Op.buildSlice 22 1 #[(0, Go.Operand.tmp 61)]) 22 [(61, x49)] fun x50 w50 =>
    AskGW X [(x47, true)] w50 [] (kb10_0 b0 x15 x16) false 39 [(.agg #[x15, x16]), x20, x48, x50] fun x51 w51 =>
    AskG [(x47, true)] (rBin X.P .eql 3 false true x51 (J 111)) fun x52 =>
    Ask (rPick x47 x52 (.bool false)) fun x53 =>
    Ret X w51 [] [] x53)) := by kernel_rfl
theorem keepsAlive11 : Keeps1 Tryz.prog GT 10 cAlive11 := by
  refine keepsW (T := Tal) (A := ann10) hMix keepTal hGT (calls_of (by kernel_rfl)) (callsW_of (by kernel_rfl)) fun args _ w0 hrd hpre hg => ?_
  obtain rfl := hrd
  refine ⟨[], [], [], 1, env0 [] w0, fun b => b, 0, rfl, rfl, fun X hX => mem_none hX rfl, fun X hP hS hw hX hR => ?_⟩
  subst hw; try dsimp only at hR
  rw [vc10 X]
  have ok : ∀ n, n < 100 → okS n := fun n h => Nat.lt_trans h (by decide)
  refine call_PE hS (T := Tal) (f := 7) rfl 1 (show 1 < B64 by decide) ?_
  rw [ask_aggS, ask_selS0, ask_selS1, ask_selS2, ask_selS3]
  refine call_PE hS (T := Tal) (f := 7) rfl 5 (show 5 < B64 by decide) ?_
  rw [ask_aggS, ask_selS0, ask_selS1, ask_selS2, ask_selS3, foldSg, foldSg]
  refine call_W hX hS (T := Tal) (f := 36) rfl (1, 5, ()) (fun w _ => ⟨⟨_, _, rfl, ⟨rfl, ok 1 (by decide)⟩, _, _, rfl, ⟨rfl, ok 5 (by decide)⟩, rfl⟩, trivial⟩) fun v w1 w1' hw1 k1 s1 su1 hv => ?_
  have hcl : cC1.rd w1' v (1, 5) := hv
  obtain ⟨rows, images, row, rfl, h1, h3, h2⟩ := c1_form hcl
  intro b0 hb0
  refine a_agg (cs := [rows, images]) rfl (by simp [slAt_one h1, slAt_one h2.1]) ?_
  iterate 2 refine a_sel1 rfl ?_
  refine call_PE hS (T := Tal) (f := 7) rfl 3 (show 3 < B64 by decide) ?_
  refine a_build (encS 3).toArray hX hP tyS' (by decide) (by decide) (by kernel_rfl) rfl (by decide) fun q w2 w2' hw2 k2 s2 su2 o2 => ?_
  have hcl2 : cC1.rd w2' _ (1, 5) := cC1_fresh hcl su2 hb0
  refine call_W hX hS (T := Tal) (f := 37) rfl ((1, 5), [3], ()) (fun w hw => ⟨⟨_, _, rfl, cC1_stable _ _ _ _ hw.stp hcl2, _, _, rfl, (lsOne o2 (ok 3 (by decide))).stp0 hw.stp, rfl⟩, rfl⟩) fun v w3 w3' hw3 k3 s3 su3 hv => ?_
  obtain ⟨o, rfl, o3⟩ := hv
  replace o3 : OwnL w3.heap.size w3' o (imL 1 3) := o3 3 rfl
  rw [ask_ext (v := o) rfl, ask_ext (v := J 0) rfl]
  refine call_PE hS (T := Tal) (f := 7) rfl 3 (show 3 < B64 by decide) ?_
  refine a_build (encS 3).toArray hX hP tyS' (by decide) (by decide) (by kernel_rfl) rfl (by decide) fun q w4 w4' hw4 k4 s4 su4 o4 => ?_
  refine call_PE hS (T := Tal) (f := 7) rfl 5 (show 5 < B64 by decide) ?_
  refine a_build (encS 5).toArray hX hP tyS' (by decide) (by decide) (by kernel_rfl) rfl (by decide) fun q w5 w5' hw5 k5 s5 su5 o5 => ?_
  refine call_PE hS (T := Tal) (f := 7) rfl 2 (show 2 < B64 by decide) ?_
  refine call_W hX hS (T := Tal) (f := 38) rfl ([3], [5], 2, ()) (fun w hw => ⟨⟨_, _, rfl, ((lsOne o4 (ok 3 (by decide))).stp0 su5).stp0 hw.stp, _, _, rfl, (lsOne o5 (ok 5 (by decide))).stp0 hw.stp, _, _, rfl, ⟨rfl, ok 2 (by decide)⟩, rfl⟩, rfl, rfl⟩) fun v w6 w6' hw6 k6 s6 su6 hv => ?_
  obtain ⟨an, rfl, o6⟩ := hv
  replace o6 : w6'.ownsRow w6.heap.size 25 4 an 1 (encS (ansL 3 5 2)) := o6 3 5 rfl rfl
  have e13 : ansL 3 5 2 = 13 := by kernel_rfl
  have e3 : imL 1 3 = 3 := by kernel_rfl
  rw [e13] at o6
  rw [e3] at o3
  rw [ask_ext (v := an) rfl, ask_ext (v := J 0) rfl]
  rw [ask_neqN, decide_eq_true rfl, Bool.not_true]
  refine a_G_on condsV1 ?_
  rw [ask_neqN, decide_eq_true rfl, Bool.not_true, ask_pickF]
  have S36 : Stp [] w3' w6' := su4.trans0 (su5.trans0 su6)
  refine a_G_on condsV1 (a_len hP tyL (own_slAt o3) ?_)
  refine a_G_on condsV1 ?_
  rw [ask_neqN, decide_eq_true rfl, Bool.not_true, ask_pickF]
  refine a_G_on condsV1 (a_len hP tyS' (own_slAt o6) ?_)
  refine a_G_on condsV1 ?_
  rw [ask_neqN, decide_eq_true rfl, Bool.not_true, ask_pickF]
  refine ld_SG (l := [13]) hP k6 (own_slAt o6) (by simp) rfl (by simp) (fun _ _ => List.not_mem_nil) condsV1 ?_
  refine a_GF_on condsV1 (call_PE hS (T := Tal) (f := 7) rfl 13 (show 13 < B64 by decide) ?_)
  refine a_GF_on condsV1 (call_PE hS (T := Tal) (f := 8) rfl (13, 13) ⟨ok 13 (by decide), ok 13 (by decide)⟩ ?_)
  refine a_G_on condsV1 ?_
  rw [ask_not, decide_eq_true rfl, Bool.not_true, ask_pickF]
  refine a_if (fun h => by cases h) fun _ => ?_
  refine call_PE hS (T := Tal) (f := 7) rfl 2 (show 2 < B64 by decide) ?_
  have hcl6 : cC1.rd w6' _ (1, 5) := cC1_stable _ _ _ _ (su3.trans0 S36) hcl2
  have hf6 : Ls encS okS w6' o [3] := (lsOne o3 (ok 3 (by decide))).stp0 S36
  refine call_W hX hS (T := Tal) (f := 39) rfl ((1, 5), [3], 2, [13], ()) (fun w hw => ⟨⟨_, _, rfl, cC1_stable _ _ _ _ hw.stp hcl6, _, _, rfl, hf6.stp0 hw.stp, _, _, rfl, ⟨rfl, ok 2 (by decide)⟩, _, _, rfl, (lsOne o6 (ok 13 (by decide))).stp0 hw.stp, rfl⟩, rfl, rfl⟩) fun v w7 w7' hw7 k7 s7 su7 hv => ?_
  have e0 : (if firL ((1, 5), some 2, 13) % lN = 3 % lN then 0 else 111) = 0 := by kernel_rfl
  have e1 : (if firL ((1, 5), some 2, 12) % lN = 3 % lN then 0 else 111) = 111 := by kernel_rfl
  replace hv : v = J (if firL ((1, 5), some 2, 13) % lN = 3 % lN then 0 else 111) := hv 3 13 rfl rfl
  rw [e0] at hv
  subst hv
  rw [ask_eqlN, decide_eq_true rfl]
  refine a_GF_on condsV1 (call_PE hS (T := Tal) (f := 7) rfl 2 (show 2 < B64 by decide) ?_)
  refine a_GF_on condsV1 (call_PE hS (T := Tal) (f := 7) rfl 12 (show 12 < B64 by decide) ?_)
  refine a_GO_on condsV1 (a_build (encS 12).toArray hX hP tyS' (by decide) (by decide) (by kernel_rfl) rfl (by decide) fun q w8 w8' hw8 k8 s8 su8 o8 => ?_)
  refine a_GW_on condsV1 (call_W hX hS (T := Tal) (f := 39) rfl ((1, 5), [3], 2, [12], ()) (fun w hw => ⟨⟨_, _, rfl, cC1_stable _ _ _ _ (su7.trans0 (su8.trans0 hw.stp)) hcl6, _, _, rfl, hf6.stp0 (su7.trans0 (su8.trans0 hw.stp)), _, _, rfl, ⟨rfl, ok 2 (by decide)⟩, _, _, rfl, (lsOne o8 (ok 12 (by decide))).stp0 hw.stp, rfl⟩, rfl, rfl⟩) fun v w9 w9' hw9 k9 s9 su9 hv => ?_)
  replace hv : v = J (if firL ((1, 5), some 2, 12) % lN = 3 % lN then 0 else 111) := hv 3 12 rfl rfl
  rw [e1] at hv
  subst hv
  refine a_G_on condsV1 ?_
  rw [ask_eqlN, decide_eq_true rfl, ask_pickT]
  exact hR _ _ _ _ fun _ _ => rfl
#print axioms keepsAlive11
end Go.Vc
