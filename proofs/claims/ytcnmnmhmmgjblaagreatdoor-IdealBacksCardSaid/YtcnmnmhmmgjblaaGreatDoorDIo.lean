/-
  What the law compares.
-/
import Derived.Test.YtcnmnmhmmgjblaaGreatDoorDIn
namespace Go.Vc
open Go Go.Proofs Go.RowKit
def ann64 : Ann := ⟨[], [15], 70, [], [2, 3], none, [], []⟩
theorem vc64 (X : Ctx) (β : Nat → Nat) (x0 x1 : Value) : (run Tryz.prog ann64 64 [.x (.v 0), .x (.v 1)] [] [] 3).den X (env0 [x0, x1] X.w0) 3 β 0 (fun _ _ _ => False) = (
 Ask (rAgg 4 x0) fun x3 =>
 AskNew X.w0 fun _ =>
 Ask (rAgg 4 x1) fun x4 =>
 AskNew X.w0 fun _ =>
 AskF X 15 [x3] fun x5 =>
 Ask (rBin X.P .eql 49 false false x5 x4) fun x6 =>
 Ret X X.w0 [] [] x6) := by kernel_rfl
def cIsS : Contract := fnP (fun e : F => [S e.val, S e.val]) (fun _ => True) (fun _ v => v = .bool true)
def Tis : Table := T0.add 15 cqLeast
theorem keepTis : AllKeep Tryz.prog GT Tis := keepT0.add keepsqRLeast
theorem keepsIsS : Keeps1 Tryz.prog GT 64 cIsS := by
  refine keepsP (T := Tis) (A := ann64) (fun a b _ _ h => SF_inj (by simpa using h)) hMix keepTis hGT (calls_of (by kernel_rfl)) (callsW_of (by kernel_rfl)) fun e w0 _ _ => ⟨[.x (.v 0), .x (.v 1)], [], [], 3, env0 [S e.val, S e.val] w0, fun b => b, 0, rfl, rfl, fun X hX => mem_none hX rfl, fun X hP hS hw hX hR => ?_⟩
  subst hw
  rw [vc64 X]
  rw [ask_aggS]; intro _ _
  rw [ask_aggS]; intro _ _
  refine call_PE hS (T := Tis) (f := 15) rfl e.val (val_lt e) ?_
  rw [rF_val, ask_eqlS (hP ▸ a4R) (val_lt _) (val_lt _), decide_eq_true rfl]
  exact hR _ _ _ _ rfl
def ann65 : Ann := ⟨[(4, ([5], []))], [64], 70, [], [], none, [], []⟩
theorem vc65 (X : Ctx) (β : Nat → Nat) (x0 x1 : Value) : (run Tryz.prog ann65 65 [.x (.v 0), .x (.v 1)] [] [] 3).den X (env0 [x0, x1] X.w0) 3 β 0 (fun _ _ _ => False) = (
 Ask (rLen X.P 28 x0) fun x3 =>
 Ask (rLen X.P 50 x1) fun x4 =>
 Ask (rBin X.P .neq 3 false false x3 x4) fun x5 =>
 (∃ t, x5 = .bool t) ∧ (x5 = .bool true →
 Ret X X.w0 [] [] (.bool false)) ∧ (x5 = .bool false →
 ∃ (I0 : List Value → World → Prop) (μ0 : List Value → World → Nat), (∀ w, KnownV X X.w0 [] [] w → I0 [(J 0)] w) ∧ ∀ x6 w7, I0 [x6] w7 →
 Ask (rLen X.P 28 x0) fun x8 =>
 Ask (rBin X.P .lss 3 false false x6 x8) fun x9 =>
 (∃ t, x9 = .bool t) ∧ (x9 = .bool true →
 Ask (rIad X.P 28 x0 x6) fun x10 =>
 Ask (rLoad X w7 [] 29 x10) fun x11 =>
 Ask (rIad X.P 50 x1 x6) fun x12 =>
 Ask (rLoad X w7 [] 49 x12) fun x13 =>
 AskF X 64 [x11, x13] fun x14 =>
 Ask (rUn X.P .not x14) fun x15 =>
 (∃ t, x15 = .bool t) ∧ (x15 = .bool true →
 Ret X w7 [] [] (.bool false)) ∧ (x15 = .bool false →
 Ask (rBin X.P .add 3 false true x6 (J 1)) fun x16 =>
 Again X w7 [] [] fun w => I0 [x16] w ∧ μ0 [x16] w < μ0 [x6] w7)) ∧ (x9 = .bool false →
 Ret X w7 [] [] (.bool true)))) := by kernel_rfl
def cIsSs : Contract := fnW (Cods.cons cLF (Cods.cons cLF Cods.nil)) (fun p _ => p.1 = p.2.1) (fun _ _ v _ => v = .bool true)
def Tss : Table := T0.add 64 cIsS
theorem keepTss : AllKeep Tryz.prog GT Tss := keepT0.add keepsIsS
theorem keepsIsSs : Keeps1 Tryz.prog GT 65 cIsSs := by
  refine keepsW (T := Tss) (A := ann65) hMix keepTss hGT (calls_of (by kernel_rfl)) (callsW_of (by kernel_rfl)) fun args ⟨l, m, _⟩ w0 hrd hpre hg => ?_
  obtain ⟨x, _, rfl, hx, y, _, rfl, hy, rfl⟩ := hrd
  dsimp only at hx hy hpre
  subst hpre
  replace hx : LsF w0 x l := hx
  replace hy : LsF w0 y l := hy
  have hmx := len_max hx
  unfold maxLen at hmx
  refine ⟨[.x (.v 0), .x (.v 1)], [], [], 3, env0 [x, y] w0, fun b => b, 0, rfl, rfl, fun X hX => mem_none hX rfl, fun X hP hS hw hX hR => ?_⟩
  subst hw; try dsimp only at hR
  rw [vc65 X]
  refine a_len hP tySI hx.1 ?_
  refine a_len hP tyRI hy.1 ?_
  rw [ask_neqI]
  refine a_if (fun h => by simp at h) fun _ => ?_
  refine ⟨fun a w => ∃ i, a = [J i] ∧ i ≤ l.length ∧ Kn X w, fun a _ => match a with | i :: _ => l.length - intNat i | _ => 0, fun w hw => ⟨0, rfl, Nat.zero_le _, hw.kn⟩, ?_⟩
  rintro _ w ⟨i, he, hi, hk⟩
  simp only [List.cons.injEq, and_true] at he
  obtain rfl := he
  refine a_len hP tySI hx.1 ?_
  rw [ask_lssN]
  refine a_ifD (fun hlt => ?_) fun hge => ?_
  · have s0 := hk.stp0 hX
    refine ld_SF hP hk (hx.1.stp0 s0) rfl hlt (fun _ _ => List.not_mem_nil) ?_
    refine ld_RF hP hk (hy.1.stp0 s0) rfl hlt (fun _ _ => List.not_mem_nil) ?_
    refine call_PE hS (T := Tss) (f := 64) rfl (l.getD i 0) trivial ?_
    rw [ask_not]
    refine a_if (fun h => by cases h) fun _ => ?_
    rw [ask_succ (by omega)]
    intro w2 hw2
    exact ⟨⟨i + 1, rfl, hlt, hw2.kn⟩, by simp [intNat]; omega⟩
  · exact hR _ _ _ _ fun _ _ => rfl
def ann17 : Ann := ⟨[], [64], 70, [(65, false)], [], none, [], []⟩
def kb17_0 (b0 b1 : Nat) (x3 x4 : Value) : List KB := [⟨b0, true, 36, (aggArr x3)⟩, ⟨b1, true, 52, (aggArr x4)⟩]
theorem vc17 (X : Ctx) (β : Nat → Nat) (x0 x1 : Value) : (run Tryz.prog ann17 17 [.x (.v 0), .x (.v 1)] [] [] 3).den X (env0 [x0, x1] X.w0) 3 β 0 (fun _ _ _ => False) = (
 Ask (rAgg 18 x0) fun x3 =>
 AskNew X.w0 fun b0 =>
 Ask (rAgg 18 x1) fun x4 =>
 AskNew X.w0 fun b1 =>
 Ask (rSel (aggArr x3) 0 4 true) fun x5 =>
 Ask (rSel (aggArr x4) 0 4 true) fun x6 =>
 AskF X 64 [x5, x6] fun x7 =>
 AskG [(x7, true)] (rSel (aggArr x3) 4 4 true) fun x8 =>
 AskG [(x7, true)] (rSel (aggArr x4) 4 4 true) fun x9 =>
 AskGF X [(x7, true)] 64 [x8, x9] fun x10 =>
 Ask (rPick x7 x10 (.bool false)) fun x11 =>
 AskG [(x11, true)] (rSel (aggArr x3) 8 4 true) fun x12 =>
 AskG [(x11, true)] (rSel (aggArr x4) 8 4 true) fun x13 =>
 AskGF X [(x11, true)] 64 [x12, x13] fun x14 =>
 Ask (rPick x11 x14 (.bool false)) fun x15 =>
 AskG [(x15, true)] (rSel (aggArr x3) 12 4 true) fun x16 =>
 AskG [(x15, true)] (rSel (aggArr x4) 12 4 true) fun x17 =>
 AskGF X [(x15, true)] 64 [x16, x17] fun x18 =>
 Ask (rPick x15 x18 (.bool false)) fun x19 =>
 AskG [(x19, true)] (rSel (aggArr x3) 16 1 false) fun x20 =>
 AskG [(x19, true)] (rSel (aggArr x4) 16 1 false) fun x21 =>
 AskGW X [(x19, true)] X.w0 [] (kb17_0 b0 b1 x3 x4) false 65 [x20, x21] fun x22 w22 =>
 Ask (rPick x19 x22 (.bool false)) fun x23 =>
 AskG [(x23, true)] (rSel (aggArr x3) 17 1 false) fun x24 =>
 AskG [(x23, true)] (rSel (aggArr x4) 17 1 false) fun x25 =>
 AskGW X [(x23, true)] w22 [] (kb17_0 b0 b1 x3 x4) false 65 [x24, x25] fun x26 w26 =>
 Ask (rPick x23 x26 (.bool false)) fun x27 =>
 Ret X w26 [] [] x27) := by kernel_rfl
def cPt : Contract := fnW (Cods.cons cTpF (Cods.cons cTpF Cods.nil)) (fun p _ => p.1 = p.2.1) (fun _ _ v _ => v = .bool true)
def Tpt : Table := Tss.add 65 cIsSs
theorem keepTpt : AllKeep Tryz.prog GT Tpt := keepTss.add keepsIsSs
theorem keepsPt : Keeps1 Tryz.prog GT 17 cPt := by
  refine keepsW (T := Tpt) (A := ann17) hMix keepTpt hGT (calls_of (by kernel_rfl)) (callsW_of (by kernel_rfl)) fun args ⟨t, t', _⟩ w0 hrd hpre hg => ?_
  obtain ⟨_, _, rfl, ⟨l, r, rfl, hl, hr⟩, _, _, rfl, ⟨l', r', rfl, hl', hr'⟩, rfl⟩ := hrd
  dsimp only at hl hr hl' hr' hpre
  subst hpre
  replace hl : LsF w0 l t.2.2.2.2.1 := hl
  replace hr : LsF w0 r t.2.2.2.2.2 := hr
  replace hl' : LsF w0 l' t.2.2.2.2.1 := hl'
  replace hr' : LsF w0 r' t.2.2.2.2.2 := hr'
  refine ⟨[.x (.v 0), .x (.v 1)], [], [], 3, env0 [.agg (tpL t l r).toArray, .agg (tpL t l' r').toArray] w0, fun b => b, 0, rfl, rfl, fun X hX => mem_none hX rfl, fun X hP hS hw hX hR => ?_⟩
  subst hw; try dsimp only at hR
  rw [vc17 X]
  refine a_agg (tpL_len _ _ _) (tpL_one (slAt_one hl.1) (slAt_one hr.1)) ?_
  intro b0 hb0
  refine a_agg (tpL_len _ _ _) (tpL_one (slAt_one hl'.1) (slAt_one hr'.1)) ?_
  intro b1 hb1
  have is : ∀ (e : F) {K' : Value → Prop}, K' (.bool true) → AskF X 64 [S e.val, S e.val] K' := fun e K' hK => call_PE hS (T := Tpt) (f := 64) rfl e trivial hK
  have on : ∀ {X : Ctx}, True := trivial
  refine a_selL (ds := encS t.1.val) rfl (by rw [tpL_len]; omega) ?_
  refine a_selL (ds := encS t.1.val) rfl (by rw [tpL_len]; omega) ?_
  refine is t.1 ?_
  refine a_G_on condsV1 (a_selL (ds := encS t.2.1.val) rfl (by rw [tpL_len]; omega) ?_)
  refine a_G_on condsV1 (a_selL (ds := encS t.2.1.val) rfl (by rw [tpL_len]; omega) ?_)
  refine a_GF_on condsV1 (is t.2.1 ?_)
  rw [ask_pickT]
  refine a_G_on condsV1 (a_selL (ds := encS t.2.2.1.val) rfl (by rw [tpL_len]; omega) ?_)
  refine a_G_on condsV1 (a_selL (ds := encS t.2.2.1.val) rfl (by rw [tpL_len]; omega) ?_)
  refine a_GF_on condsV1 (is t.2.2.1 ?_)
  rw [ask_pickT]
  refine a_G_on condsV1 (a_selL (ds := encS t.2.2.2.1.val) rfl (by rw [tpL_len]; omega) ?_)
  refine a_G_on condsV1 (a_selL (ds := encS t.2.2.2.1.val) rfl (by rw [tpL_len]; omega) ?_)
  refine a_GF_on condsV1 (is t.2.2.2.1 ?_)
  rw [ask_pickT]
  refine a_G_on condsV1 (a_sel1 (v := l) rfl ?_)
  refine a_G_on condsV1 (a_sel1 (v := l') rfl ?_)
  refine a_GW_on condsV1 (call_W hX hS (T := Tpt) (f := 65) rfl (t.2.2.2.2.1, t.2.2.2.2.1, ()) (fun w hw => ⟨⟨_, _, rfl, hl.stp0 hw.stp, _, _, rfl, hl'.stp0 hw.stp, rfl⟩, rfl⟩) fun v w1 w2 h1 k2 s2 su2 hq => ?_)
  subst hq
  rw [ask_pickT]
  refine a_G_on condsV1 (a_sel1 (v := r) rfl ?_)
  refine a_G_on condsV1 (a_sel1 (v := r') rfl ?_)
  refine a_GW_on condsV1 (call_W hX hS (T := Tpt) (f := 65) rfl (t.2.2.2.2.2, t.2.2.2.2.2, ()) (fun w hw => ⟨⟨_, _, rfl, hr.stp0 (su2.trans0 hw.stp), _, _, rfl, hr'.stp0 (su2.trans0 hw.stp), rfl⟩, rfl⟩) fun v w3 w4 h3 k4 s4 su4 hq => ?_)
  subst hq
  rw [ask_pickT]
  exact hR _ _ _ _ fun _ _ => rfl
def ann18 : Ann := ⟨[(4, ([6], []))], [], 70, [(66, false)], [], none, [], []⟩
theorem vc18 (X : Ctx) (β : Nat → Nat) (x0 x1 : Value) : (run Tryz.prog ann18 18 [.x (.v 0), .x (.v 1)] [] [] 3).den X (env0 [x0, x1] X.w0) 3 β 0 (fun _ _ _ => False) = (
 AskW X X.w0 [] [] false 66 [x1] fun x3 w3 =>
 Ask (rLen X.P 24 x3) fun x4 =>
 Ask (rBin X.P .add 3 false true x4 (J 1)) fun x5 =>
 Ask (rSlc X.P 28 x0 none (some x5) none) fun x6 =>
 ∃ (I0 : List Value → World → Prop) (μ0 : List Value → World → Nat), (∀ w, KnownV X w3 [] [] w → I0 [(J 0)] w) ∧ ∀ x7 w8, I0 [x7] w8 →
 Ask (rLen X.P 24 x3) fun x9 =>
 Ask (rBin X.P .lss 3 false false x7 x9) fun x10 =>
 (∃ t, x10 = .bool t) ∧ (x10 = .bool true →
 Ask (rIad X.P 28 x6 x7) fun x11 =>
 Ask (rLoad X w8 [] 29 x11) fun x12 =>
 Ask (rIad X.P 24 x3 x7) fun x13 =>
 Ask (rLoad X w8 [] 23 x13) fun x14 =>
 Ask (rBin X.P .neq 29 false false x12 x14) fun x15 =>
 (∃ t, x15 = .bool t) ∧ (x15 = .bool true →
 Ret X w8 [] [] (.bool false)) ∧ (x15 = .bool false →
 Ask (rBin X.P .add 3 false true x7 (J 1)) fun x16 =>
 Again X w8 [] [] fun w => I0 [x16] w ∧ μ0 [x16] w < μ0 [x7] w8)) ∧ (x10 = .bool false →
 Ask (rLen X.P 24 x3) fun x11 =>
 Ask (rIad X.P 28 x6 x11) fun x12 =>
 Ask (rLoad X w8 [] 29 x12) fun x13 =>
 Ask (rBin X.P .eql 29 false false x13 (.agg #[(U 78), (U 0), (U 0), (U 0)])) fun x14 =>
 Ret X w8 [] [] x14)) := by kernel_rfl
def cUnt16 : Contract := fnW (Cods.cons (cMkK 78) (Cods.cons cLS Cods.nil)) (fun p _ => p.1 = cut p.2.1) (fun _ _ v _ => v = .bool true)
theorem ok78 : okS 78 := by unfold okS; decide
theorem keepsUnt16 : Keeps1 Tryz.prog GT 18 cUnt16 := by
  refine keepsW (T := Tls) (A := ann18) hMix keepTls hGT (calls_of (by kernel_rfl)) (callsW_of (by kernel_rfl)) fun args ⟨l, m, _⟩ w0 hrd hpre hg => ?_
  obtain ⟨c, _, rfl, hc, x, _, rfl, hl, rfl⟩ := hrd
  try dsimp only at hl
  try dsimp only at hpre
  subst hpre
  obtain ⟨g, cap, rfl, hc, ok⟩ := hc
  refine ⟨[.x (.v 0), .x (.v 1)], [], [], 3, env0 [.slice (some ⟨g, 0, none⟩) (cut m).length cap, x] w0, fun b => b, 0, rfl, rfl, fun X hX => mem_none hX rfl, fun X hP hS hw hX hR => ?_⟩
  subst hw; try dsimp only at hR
  rw [vc18 X]
  replace hl : Ls encS okS X.w0 x m := hl
  have hcap := (slAt_cap hc).2
  have h64 := cut_len m
  refine call_W hX hS (T := Tls) (f := 66) rfl (m, ()) (fun w hw => ⟨⟨_, _, rfl, hl.stp0 hw.stp, rfl⟩, trivial⟩) fun v w1 w2 h1 k2 s2 su2 hq => ?_
  replace hq : Ls encS okS w2 v (cut m) := hq
  refine a_len hP tyW4 hq.1 ?_
  rw [ask_succ (by omega)]
  refine a_slcCap hP tySI (hi := (cut m).length + 1) hcap ?_
  rw [sub_zero]
  refine ⟨fun a w => ∃ k, a = [J k] ∧ k ≤ (cut m).length ∧ Kn X w ∧ Stp [] w2 w, fun a _ => match a with | [i] => (cut m).length - intNat i | _ => 0, fun w hw => ⟨0, rfl, Nat.zero_le _, hw.kn, hw.stp⟩, ?_⟩
  rintro _ w ⟨k, he, hk, hkn, hs⟩
  simp only [List.cons.injEq, and_true] at he
  subst he
  have hl' := hq.1.stp0 hs
  have hc' := hc.stp0 (hkn.stp0 hX)
  refine a_len hP tyW4 hq.1 ?_
  rw [ask_lssN]
  refine a_ifD (fun hlt => ?_) fun hge => ?_
  · refine ld_S hP hkn hc' rfl (by simp) (by simp; omega) (fun _ _ => List.not_mem_nil) ?_
    rw [List.getElem_append_left hlt]
    refine ld_W4 hP hkn hl' rfl hlt (fun _ _ => List.not_mem_nil) ?_
    have okk := hq.2 _ (List.getElem_mem hlt)
    rw [show (cut m).getD k 0 = (cut m)[k] by rw [List.getD_eq_getElem?_getD, List.getElem?_eq_getElem hlt]; rfl]
    rw [ask_neqS (hP ▸ a4S) okk okk, decide_eq_true rfl]
    refine a_if (fun h => by cases h) fun _ => ?_
    rw [ask_succ (by omega)]
    intro w3 hw3
    exact ⟨⟨k + 1, rfl, hlt, hw3.kn, hs.trans0 hw3.stp⟩, by simp [intNat]; omega⟩
  · obtain rfl : k = (cut m).length := by omega
    refine a_len hP tyW4 hq.1 ?_
    refine ld_S hP hkn hc' rfl (by simp) (by simp) (fun _ _ => List.not_mem_nil) ?_
    rw [List.getElem_append_right (by omega)]
    simp only [Nat.sub_self, List.getElem_cons_zero]
    rw [e78', ask_eqlS (hP ▸ a4S) ok78 ok78]
    exact hR _ _ _ _ fun _ _ => by simp
end Go.Vc
