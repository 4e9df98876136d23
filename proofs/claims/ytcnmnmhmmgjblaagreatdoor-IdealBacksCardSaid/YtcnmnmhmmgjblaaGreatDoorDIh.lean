/-
  What is looked at first: the errors of a prover, both sides; powers.
-/
import Derived.Test.YtcnmnmhmmgjblaaGreatDoorDIg
namespace Go.Vc
open Go Go.Proofs Go.RowKit
section
variable {X : Ctx} {c d : Bool} {R1 : Value → Prop} {R2 : Value → Value → Prop} {R3 : Value → Value → Value → Prop} {K : Value → Prop} {f : Nat} {args : List Value}
theorem a_or2 (h : c = false → ∀ K' : Value → Prop, K' (.bool d) → Ask R1 fun x => Ask (R2 x) K') (hK : K (.bool (c || d))) :
    AskG [(.bool c, false)] R1 fun x => AskG [(.bool c, false)] (R2 x) fun y => Ask (rPick (.bool c) (.bool true) y) K := by
  cases c
  · have h0 := h rfl (fun v => v = .bool d) rfl
    refine a_G_on condsV1 ⟨h0.1, fun x hx => ?_⟩
    have h1 := h0.2 x hx
    refine a_G_on condsV1 ⟨h1.1, fun y hy => ?_⟩
    rw [h1.2 y hy]
    show Ask (rPick (.bool false) (.bool true) (.bool d)) K
    rw [ask_pickF]; exact hK
  · iterate 2 refine a_G_off (condsV1_not (by decide)) fun _ => ?_
    rw [ask_pickT]; exact hK
theorem a_or4F (h : c = false → ∀ K' : Value → Prop, K' (.bool d) → Ask R1 fun x => Ask (R2 x) fun y => AskF X f args fun z => Ask (R3 y z) K') (hK : K (.bool (c || d))) :
    AskG [(.bool c, false)] R1 fun x => AskG [(.bool c, false)] (R2 x) fun y => AskGF X [(.bool c, false)] f args fun z => AskG [(.bool c, false)] (R3 y z) fun q => Ask (rPick (.bool c) (.bool true) q) K := by
  cases c
  · have h0 := h rfl (fun v => v = .bool d) rfl
    refine a_G_on condsV1 ⟨h0.1, fun x hx => ?_⟩
    have h1 := h0.2 x hx
    refine a_G_on condsV1 ⟨h1.1, fun y hy => ?_⟩
    have h2 := h1.2 y hy
    refine a_GF_on condsV1 ⟨h2.1, fun z hz => ?_⟩
    have h3 := h2.2 z hz
    refine a_G_on condsV1 ⟨h3.1, fun q hq => ?_⟩
    rw [h3.2 q hq]
    show Ask (rPick (.bool false) (.bool true) (.bool d)) K
    rw [ask_pickF]; exact hK
  · iterate 2 refine a_G_off (condsV1_not (by decide)) fun _ => ?_
    refine a_GF_off (condsV1_not (by decide)) fun _ => ?_
    refine a_G_off (condsV1_not (by decide)) fun _ => ?_
    rw [ask_pickT]; exact hK
theorem a_orF {f : Nat} {args : List Value} (h : c = false → ∀ K' : Value → Prop, K' (.bool d) → AskF X f args K') (hK : K (.bool (c || d))) :
    AskGF X [(.bool c, false)] f args fun x => Ask (rPick (.bool c) (.bool true) x) K := by
  cases c
  · have h0 := h rfl (fun v => v = .bool d) rfl
    refine a_GF_on condsV1 ⟨h0.1, fun x hx => ?_⟩
    rw [h0.2 x hx]
    show Ask (rPick (.bool false) (.bool true) (.bool d)) K
    rw [ask_pickF]; exact hK
  · refine a_GF_off (condsV1_not (by decide)) fun _ => ?_
    rw [ask_pickT]; exact hK
theorem ask_neqI {P : Program} {t : TypeId} {cx cy : Bool} {a b : Int} : Ask (rBin P .neq t cx cy (.int .i64 a) (.int .i64 b)) K = K (.bool (a != b)) := ask_neq
end
/-- Params as they come, any. -/
def cPi : Cod (Int × Int) := ⟨fun _ v p => v = Pv p.1 p.2, fun _ _ a b h k => by
  obtain ⟨h1, h2⟩ := Pv_inj (h.symm.trans k)
  exact Prod.ext h1 h2⟩
/-- Are the lists long enough? -/
def enB (b c : Int) (g h : Nat) : Bool := decide (sizeI b c ≤ (g : Int)) && decide (sizeI b c ≤ (h : Int))
/-- Is some value out of its range? -/
def badV (b : Int) (l : List (Nat × Nat)) : Bool := l.any fun o => decide (b < 64) && decide (2 ^ b.toNat ≤ o.1)
/-- The error that is seen first; 0: none. -/
def fitsE (b c : Int) (g h s r : Nat) (l : List (Nat × Nat)) : Nat :=
  if okPar b c = false then 130 else if (!enB b c g h || ((l.length : Int) != c) || ((s : Int) != sizeI b c) || ((r : Int) != sizeI b c)) = true then 2 else if badV b l = true then 131 else 0
/-! ### the document's -/
def Ten' : Table := T0.add 23 cSize
theorem keepTen' : AllKeep Tryz.prog GT Ten' := keepT0.add keepsSize
def ann103 : Ann := ⟨[], [23], 70, [], [], none, [], []⟩
theorem vc103 (X : Ctx) (β : Nat → Nat) (x0 x1 x2 : Value) : (run Tryz.prog ann103 103 [.x (.v 0), .l [.v 1, .v 2]] [] [] 4).den X (env0 [x0, x1, x2] X.w0) 4 β 0 (fun _ _ _ => False) = (
 Ask (rAgg 81 x0) fun x4 =>
 AskNew X.w0 fun _ =>
 AskNew X.w0 fun _ =>
 Ask (rSel (aggArr x4) 79 1 false) fun x5 =>
 Ask (rLen X.P 63 x5) fun x6 =>
 AskF X 23 [(.agg #[x1, x2])] fun x7 =>
 Ask (rBin X.P .geq 3 false false x6 x7) fun x8 =>
 AskG [(x8, true)] (rSel (aggArr x4) 80 1 false) fun x9 =>
 AskG [(x8, true)] (rLen X.P 63 x9) fun x10 =>
 AskGF X [(x8, true)] 23 [(.agg #[x1, x2])] fun x11 =>
 AskG [(x8, true)] (rBin X.P .geq 3 false false x10 x11) fun x12 =>
 Ask (rPick x8 x12 (.bool false)) fun x13 =>
 Ret X X.w0 [] [] x13) := by kernel_rfl
def cREn : Contract := fnW (Cods.cons cRSetF (Cods.cons cPi Cods.nil)) (fun _ _ => True) (fun p _ v _ => v = .bool (enB p.2.1.1 p.2.1.2 p.1.2.2.2.1.length p.1.2.2.2.2.length))
theorem keepsREn : Keeps1 Tryz.prog GT 103 cREn := by
  refine keepsW (T := Ten') (A := ann103) hMix keepTen' hGT (calls_of (by kernel_rfl)) (callsW_of (by kernel_rfl)) fun args ⟨p, ⟨b, c⟩, _⟩ w0 hrd _ _ => ?_
  obtain ⟨_, _, rfl, ⟨g, h, rfl, hg, hh⟩, _, _, rfl, rfl, rfl⟩ := hrd
  dsimp only at hg hh
  replace hg : LsEF w0 g p.2.2.2.1 := hg
  replace hh : LsEF w0 h p.2.2.2.2 := hh
  refine ⟨[.x (.v 0), .l [.v 1, .v 2]], [], [], 4, env0 [.agg (rsetL p g h).toArray, .int .i64 b, .int .i64 c] w0, fun b => b, 0, rfl, rfl, fun X hX => mem_none hX rfl, fun X hP hS hw hX hR => ?_⟩
  subst hw; try dsimp only at hR
  rw [vc103 X]
  refine a_agg (rsetL_len _ _ _) (rsetL_one (slAt_one hg.1) (slAt_one hh.1)) ?_
  intro _ _ _ _
  refine a_setG ?_
  refine a_len hP tyEI hg.1 ?_
  refine call_PE hS (T := Ten') (f := 23) rfl (b, c) trivial ?_
  rw [ask_geq]
  by_cases h1 : sizeI b c ≤ (p.2.2.2.1.length : Int)
  · rw [decide_eq_true h1]
    refine a_G_on condsV1 (a_setH ?_)
    refine a_G_on condsV1 (a_len hP tyEI hh.1 ?_)
    refine a_GF_on condsV1 (call_PE hS (T := Ten') (f := 23) rfl (b, c) trivial ?_)
    refine a_G_on condsV1 ?_
    rw [ask_geq, ask_pickT]
    exact hR _ _ _ _ fun _ _ => by simp only [enB]; rw [decide_eq_true h1, Bool.true_and]
  · rw [decide_eq_false h1]
    iterate 2 refine a_G_off (condsV1_not (by decide)) fun _ => ?_
    refine a_GF_off (condsV1_not (by decide)) fun _ => ?_
    refine a_G_off (condsV1_not (by decide)) fun _ => ?_
    rw [ask_pickF]
    exact hR _ _ _ _ fun _ _ => by simp only [enB]; rw [decide_eq_false h1, Bool.false_and]
def Tfi' : Table := ((T0.add 42 cAllowed).add 23 cSize).add 103 cREn
theorem keepTfi' : AllKeep Tryz.prog GT Tfi' := ((keepT0.add keepsAllowed).add keepsSize).add keepsREn
def ann52 : Ann := ⟨[(8, ([10], []))], [42, 23], 70, [(103, false)], [], none, [], []⟩
def kb52_0 (b0 b1 b2 : Nat) (x6 x1 x2 x7 : Value) : List KB := [⟨b0, true, 65, (aggArr x6)⟩, ⟨b1, true, 45, #[x1, x2]⟩, ⟨b2, true, 52, (aggArr x7)⟩]
theorem vc52 (X : Ctx) (β : Nat → Nat) (x0 x1 x2 x3 x4 : Value) : (run Tryz.prog ann52 52 [.x (.v 0), .l [.v 1, .v 2], .x (.v 3), .x (.v 4)] [] [] 6).den X (env0 [x0, x1, x2, x3, x4] X.w0) 6 β 0 (fun _ _ _ => False) = (
 Ask (rAgg 81 x0) fun x6 =>
 AskNew X.w0 fun b0 =>
 AskNew X.w0 fun b1 =>
 Ask (rAgg 18 x4) fun x7 =>
 AskNew X.w0 fun b2 =>
 AskF X 42 [(.agg #[x1, x2])] fun x8 =>
 Ask (rUn X.P .not x8) fun x9 =>
 (∃ t, x9 = .bool t) ∧ (x9 = .bool true →
 Ret X X.w0 [] [] (J 130)) ∧ (x9 = .bool false →
 AskW X X.w0 [] (kb52_0 b0 b1 b2 x6 x1 x2 x7) false 103 [x6, (.agg #[x1, x2])] fun x10 w10 =>
 Ask (rUn X.P .not x10) fun x11 =>
 AskG [(x11, false)] (rLen X.P 67 x3) fun x12 =>
 AskG [(x11, false)] (rBin X.P .neq 3 false false x12 x2) fun x13 =>
 Ask (rPick x11 (.bool true) x13) fun x14 =>
 AskG [(x14, false)] (rSel (aggArr x7) 16 1 false) fun x15 =>
 AskG [(x14, false)] (rLen X.P 50 x15) fun x16 =>
 AskGF X [(x14, false)] 23 [(.agg #[x1, x2])] fun x17 =>
 AskG [(x14, false)] (rBin X.P .neq 3 false false x16 x17) fun x18 =>
 Ask (rPick x14 (.bool true) x18) fun x19 =>
 AskG [(x19, false)] (rSel (aggArr x7) 17 1 false) fun x20 =>
 AskG [(x19, false)] (rLen X.P 50 x20) fun x21 =>
 AskGF X [(x19, false)] 23 [(.agg #[x1, x2])] fun x22 =>
 AskG [(x19, false)] (rBin X.P .neq 3 false false x21 x22) fun x23 =>
 Ask (rPick x19 (.bool true) x23) fun x24 =>
 (∃ t, x24 = .bool t) ∧ (x24 = .bool true →
 Ret X w10 [] [] (J 2)) ∧ (x24 = .bool false →
 ∃ (I0 : List Value → World → Prop) (μ0 : List Value → World → Nat), (∀ w, KnownV X w10 [] (kb52_0 b0 b1 b2 x6 x1 x2 x7) w → I0 [(J 0)] w) ∧ ∀ x25 w26, I0 [x25] w26 →
 Ask (rLen X.P 67 x3) fun x27 =>
 Ask (rBin X.P .lss 3 false false x25 x27) fun x28 =>
 (∃ t, x28 = .bool t) ∧ (x28 = .bool true →
 Ask (rBin X.P .lss 3 false true x1 (J 64)) fun x29 =>
 AskG [(x29, true)] (rIad X.P 67 x3 x25) fun x30 =>
 AskG [(x29, true)] (rFad X.P 131 x30 0) fun x31 =>
 AskG [(x29, true)] (rLoad X w26 [] 22 x31) fun x32 =>
 AskG [(x29, true)] (rBin X.P .shl 22 true false (U 1) x1) fun x33 =>
 AskG [(x29, true)] (rBin X.P .geq 22 false false x32 x33) fun x34 =>
 Ask (rPick x29 x34 (.bool false)) fun x35 =>
 (∃ t, x35 = .bool t) ∧ (x35 = .bool true →
 Ret X w26 [] [] (J 131)) ∧ (x35 = .bool false →
 Ask (rBin X.P .add 3 false true x25 (J 1)) fun x36 =>
 Again X w26 [] [] fun w => I0 [x36] w ∧ μ0 [x36] w < μ0 [x25] w26)) ∧ (x28 = .bool false →
 Ret X w26 [] [] (J 0))))) := by kernel_rfl
def cRFits : Contract := fnW (Cods.cons cRSetF (Cods.cons cPi (Cods.cons cLO (Cods.cons cTpF Cods.nil)))) (fun _ _ => True) (fun p _ v _ => v = J (fitsE p.2.1.1 p.2.1.2 p.1.2.2.2.1.length p.1.2.2.2.2.length p.2.2.2.1.2.2.2.2.1.length p.2.2.2.1.2.2.2.2.2.length p.2.2.1))
theorem badV_take {b : Int} {l : List (Nat × Nat)} {i : Nat} (hi : i < l.length) : badV b (l.take (i + 1)) = (badV b (l.take i) || (decide (b < 64) && decide (2 ^ b.toNat ≤ vAt l i))) := by
  have e : l.take (i + 1) = l.take i ++ [l[i]] := List.take_succ_eq_append_getElem hi
  unfold badV
  rw [e, List.any_append, vAt, getD_O hi]
  simp
theorem badV_some {b : Int} {l : List (Nat × Nat)} {i : Nat} (hi : i < l.length) (h : (decide (b < 64) && decide (2 ^ b.toNat ≤ vAt l i)) = true) : badV b l = true := by
  unfold badV
  rw [List.any_eq_true]
  exact ⟨l[i], List.getElem_mem hi, by rw [vAt, getD_O hi] at h; exact h⟩
theorem keepsRFits : Keeps1 Tryz.prog GT 52 cRFits := by
  refine keepsW (T := Tfi') (A := ann52) hMix keepTfi' hGT (calls_of (by kernel_rfl)) (callsW_of (by kernel_rfl)) fun args ⟨p, ⟨b, c⟩, l, t, _⟩ w0 hrd _ _ => ?_
  obtain ⟨_, _, rfl, ⟨g, h, rfl, hg, hh⟩, _, _, rfl, rfl, v, _, rfl, hv, _, _, rfl, ⟨sv, rv, rfl, hsl, hsr⟩, rfl⟩ := hrd
  dsimp only at hg hh hv hsl hsr
  replace hg : LsEF w0 g p.2.2.2.1 := hg
  replace hh : LsEF w0 h p.2.2.2.2 := hh
  replace hv : LsO w0 v l := hv
  replace hsl : LsF w0 sv t.2.2.2.2.1 := hsl
  replace hsr : LsF w0 rv t.2.2.2.2.2 := hsr
  have hmx : l.length ≤ maxLen := by
    rcases hv.1 with ⟨_, hn, _⟩ | ⟨_, _, _, _, hn, _⟩
    · omega
    · exact Nat.le_trans hn.1 hn.2
  unfold maxLen at hmx
  refine ⟨[.x (.v 0), .l [.v 1, .v 2], .x (.v 3), .x (.v 4)], [], [], 6, env0 [.agg (rsetL p g h).toArray, .int .i64 b, .int .i64 c, v, .agg (tpL t sv rv).toArray] w0, fun b => b, 0, rfl, rfl, fun X hX => mem_none hX rfl, fun X hP hS hw hX hR => ?_⟩
  subst hw; try dsimp only at hR
  rw [vc52 X]
  refine a_agg (rsetL_len _ _ _) (rsetL_one (slAt_one hg.1) (slAt_one hh.1)) ?_
  intro _ _ _ _
  refine a_agg (tpL_len _ _ _) (tpL_one (slAt_one hsl.1) (slAt_one hsr.1)) ?_
  intro _ _
  refine call_PE hS (T := Tfi') (f := 42) rfl (b, c) trivial ?_
  rw [ask_not]
  refine a_if (fun h1 => hR _ _ _ _ fun _ _ => by unfold fitsE; rw [if_pos (by simpa using h1)]) fun h1 => ?_
  have hok : okPar b c = true := by simpa using h1
  refine call_W hX hS (T := Tfi') (f := 103) rfl (p, (b, c), ()) (fun w2 hw2 => ⟨⟨_, _, rfl, cRSetF_stable _ _ _ _ hw2.stp ⟨g, h, rfl, hg, hh⟩, _, _, rfl, rfl, rfl⟩, trivial⟩) fun q w2 w3 h2 k3 s3 su3 hq => ?_
  dsimp only at hq
  subst hq
  rw [ask_not]
  have size : ∀ {K' : Value → Prop}, K' (.int .i64 (sizeI b c)) → AskF X 23 [.agg #[.int .i64 b, .int .i64 c]] K' := fun hK => call_PE hS (T := Tfi') (f := 23) rfl (b, c) trivial hK
  refine a_or2 (d := ((l.length : Int) != c)) (fun _ K' hK => a_len hP tyOR hv.1 (by rw [ask_neqI]; exact hK)) ?_
  refine a_or4F (d := ((t.2.2.2.2.1.length : Int) != sizeI b c)) (fun _ K' hK => a_sel1 (v := sv) rfl (a_len hP tyRI hsl.1 (size (by rw [ask_neqI]; exact hK)))) ?_
  refine a_or4F (d := ((t.2.2.2.2.2.length : Int) != sizeI b c)) (fun _ K' hK => a_sel1 (v := rv) rfl (a_len hP tyRI hsr.1 (size (by rw [ask_neqI]; exact hK)))) ?_
  refine a_if (fun h1 => hR _ _ _ _ fun _ _ => by unfold fitsE; rw [if_neg (by simp [hok]), if_pos h1]) fun h1 => ?_
  obtain ⟨m, n, rfl, rfl, hm0, hm1, hn0, hn1⟩ := okPar_spec hok
  refine ⟨fun a w => ∃ i, a = [J i] ∧ i ≤ l.length ∧ Kn X w ∧ badV m (l.take i) = false, fun a _ => match a with | i :: _ => l.length - intNat i | _ => 0, fun w hw => ⟨0, rfl, Nat.zero_le _, hw.kn, by simp [badV]⟩, ?_⟩
  rintro _ w ⟨i, he, hi, hk, hb⟩
  simp only [List.cons.injEq, and_true] at he
  obtain rfl := he
  refine a_len hP tyOR hv.1 ?_
  rw [ask_lssN]
  refine a_ifD (fun hlt => ?_) fun hge => ?_
  · have key : ∀ {K' : Value → Prop}, K' (.bool (decide ((m : Int) < 64) && decide (2 ^ (m : Int).toNat ≤ vAt l i))) →
        Ask (rBin X.P .lss 3 false true (J m) (J 64)) fun x29 => AskG [(x29, true)] (rIad X.P 67 v (J i)) fun x30 => AskG [(x29, true)] (rFad X.P 131 x30 0) fun x31 => AskG [(x29, true)] (rLoad X w [] 22 x31) fun x32 =>
        AskG [(x29, true)] (rBin X.P .shl 22 true false (U 1) (J m)) fun x33 => AskG [(x29, true)] (rBin X.P .geq 22 false false x32 x33) fun x34 => Ask (rPick x29 x34 (.bool false)) K' := fun {K'} hK => by
      rw [ask_lss, show ((64 : Nat) : Int) = (64 : Int) from rfl]
      by_cases hm : (m : Int) < 64
      · rw [decide_eq_true hm] at hK ⊢
        have h0 := ld_OV (K := fun v => v = U (vAt l i)) hP hk (hv.1.stp0 (hk.stp0 hX)) rfl hlt (fun _ _ => List.not_mem_nil) rfl
        refine a_G_on condsV1 ⟨h0.1, fun x hx => ?_⟩
        have h1 := h0.2 x hx
        refine a_G_on condsV1 ⟨h1.1, fun x hx => ?_⟩
        have h2 := h1.2 x hx
        refine a_G_on condsV1 ⟨h2.1, fun x hx => ?_⟩
        rw [h2.2 x hx]
        refine a_G_on condsV1 ?_
        have hp2 : 2 ^ m < B64 := Nat.pow_lt_pow_right (a := 2) (by decide) (show m < 64 by omega)
        rw [ask_ushl (kd := .i64) (by omega), Nat.one_mul, Nat.mod_eq_of_lt hp2]
        refine a_G_on condsV1 ?_
        unfold U
        rw [ask_geq, ask_pickT]
        have e : decide (((2 ^ m : Nat) : Int) ≤ ((vAt l i : Nat) : Int)) = decide (2 ^ (m : Int).toNat ≤ vAt l i) := by
          rw [Int.toNat_natCast]
          exact decide_eq_decide.2 Int.ofNat_le
        rw [e]
        simpa using hK
      · rw [decide_eq_false hm] at hK ⊢
        iterate 5 refine a_G_off (condsV1_not (by decide)) fun _ => ?_
        rw [ask_pickF]
        simpa using hK
    refine key ?_
    refine a_if (fun hbad => hR _ _ _ _ fun _ _ => by unfold fitsE; rw [if_neg (by simp [hok]), if_neg (by rw [h1]; decide), if_pos (badV_some hlt hbad)]) fun hbad => ?_
    rw [ask_succ (by omega)]
    intro w2 hw2
    exact ⟨⟨i + 1, rfl, hlt, hw2.kn, by rw [badV_take hlt, hb, hbad]; rfl⟩, by simp [intNat]; omega⟩
  · obtain rfl : i = l.length := by omega
    rw [List.take_length] at hb
    exact hR _ _ _ _ fun _ _ => by unfold fitsE; rw [if_neg (by simp [hok]), if_neg (by rw [h1]; decide), if_neg (by rw [hb]; decide)]
def ann53 : Ann := ⟨[], [54], 70, [], [3, 4, 5], none, [], []⟩
theorem vc53 (X : Ctx) (β : Nat → Nat) (x0 x1 x2 : Value) : (run Tryz.prog ann53 53 [.x (.v 0), .x (.v 1), .x (.v 2)] [] [] 4).den X (env0 [x0, x1, x2] X.w0) 4 β 0 (fun _ _ _ => False) = (
 Ask (rAgg 4 x0) fun x4 =>
 AskNew X.w0 fun _ =>
 Ask (rAgg 4 x1) fun x5 =>
 AskNew X.w0 fun _ =>
 Ask (rAgg 4 x2) fun x6 =>
 AskNew X.w0 fun _ =>
 AskF X 54 [x4] fun x7 =>
 AskGF X [(x7, false)] 54 [x5] fun x8 =>
 Ask (rPick x7 (.bool true) x8) fun x9 =>
 AskGF X [(x9, false)] 54 [x6] fun x10 =>
 Ask (rPick x9 (.bool true) x10) fun x11 =>
 Ret X X.w0 [] [] x11) := by kernel_rfl
def enc3F (p : F × F × F) : List Value := [S p.1.val, S p.2.1.val, S p.2.2.val]
def zer (y z x : F) : Bool := decide (y = 0) || decide (z = 0) || decide (x = 0)
def cRZe : Contract := fnP enc3F (fun _ => True) (fun p v => v = .bool (zer p.1 p.2.1 p.2.2))
def Tze : Table := T0.add 54 cqRIsZ
theorem keepTze : AllKeep Tryz.prog GT Tze := keepT0.add keepsqRIsZ
theorem SF_inj {a b : F} (h : S a.val = S b.val) : a = b := val_inj (S_inj (val_lt a) (val_lt b) h)
theorem keepsRZe : Keeps1 Tryz.prog GT 53 cRZe := by
  refine keepsP (T := Tze) (A := ann53) (fun p q _ _ h => by
    obtain ⟨a, b, c⟩ := p
    obtain ⟨a', b', c'⟩ := q
    simp only [enc3F, List.cons.injEq, and_true] at h
    rw [SF_inj h.1, SF_inj h.2.1, SF_inj h.2.2]) hMix keepTze hGT (calls_of (by kernel_rfl)) (callsW_of (by kernel_rfl)) fun ⟨y, z, x⟩ w0 _ _ => ⟨[.x (.v 0), .x (.v 1), .x (.v 2)], [], [], 4, env0 [S y.val, S z.val, S x.val] w0, fun b => b, 0, rfl, rfl, fun X hX => mem_none hX rfl, fun X hP hS hw hX hR => ?_⟩
  subst hw; dsimp only at hR
  rw [vc53 X]
  have isz : ∀ (e : F) {K' : Value → Prop}, K' (.bool (decide (e = 0))) → AskF X 54 [S e.val] K' := fun e K' hK => call_PE hS (T := Tze) (f := 54) rfl e.val e.isLt (by rw [rF_val]; exact hK)
  iterate 3 (rw [ask_aggS]; intro _ _)
  refine isz y ?_
  refine a_orF (d := decide (z = 0)) (fun _ K' hK => isz z hK) ?_
  refine a_orF (d := decide (x = 0)) (fun _ K' hK => isz x hK) ?_
  exact hR _ _ _ _ rfl
end Go.Vc
