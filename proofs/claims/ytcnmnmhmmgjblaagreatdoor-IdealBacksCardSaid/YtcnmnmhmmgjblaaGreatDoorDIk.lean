/-
  What the program looks at first; sums over the generators.
-/
import Derived.Test.YtcnmnmhmmgjblaaGreatDoorDIj
namespace Go.Vc
open Go Go.Proofs Go.RowKit
/-! ### the program's set, its tape -/
/-- A set: B, Blind, Q, G, H. -/
abbrev SetN : Type := Nat × Nat × Nat × List Nat × List Nat
def setL (p : SetN) (g h : Value) : List Value := encS p.1 ++ encS p.2.1 ++ encS p.2.2.1 ++ [g, h]
theorem setL_len (p : SetN) (g h : Value) : (setL p g h).length = 14 := rfl
theorem setL_one {p : SetN} {g h : Value} (hg : g.oneCell' = true) (hh : h.oneCell' = true) : (setL p g h).all (·.oneCell') = true := by
  simp only [setL, List.all_append, one_encS, List.all_cons, List.all_nil, hg, hh, Bool.and_true]
def okSet (p : SetN) : Prop := p.1 < W256 ∧ p.2.1 < W256 ∧ p.2.2.1 < W256
def cSetN : Cod SetN := ⟨fun w v p => okSet p ∧ ∃ g h, v = .agg (setL p g h).toArray ∧ cLS.rd w g p.2.2.2.1 ∧ cLS.rd w h p.2.2.2.2, fun w v ⟨b, bl, q, G, H⟩ ⟨b', bl', q', G', H'⟩ ⟨⟨o1, o2, o3⟩, g, h, e, hg, hh⟩ ⟨⟨o1', o2', o3'⟩, g', h', e', hg', hh'⟩ => by
  dsimp only at hg hh hg' hh' o1 o2 o3 o1' o2' o3'
  rw [e] at e'
  simp only [Value.agg.injEq] at e'
  have e' := congrArg Array.toList e'
  simp only [setL, List.append_assoc] at e'
  obtain ⟨e1, e'⟩ := List.append_inj e' rfl
  obtain ⟨e2, e'⟩ := List.append_inj e' rfl
  obtain ⟨e3, e'⟩ := List.append_inj e' rfl
  simp only [List.cons.injEq, and_true] at e'
  obtain ⟨rfl, rfl⟩ := e'
  rw [encS_inj o1 o1' e1, encS_inj o2 o2' e2, encS_inj o3 o3' e3, cLS.inj _ _ _ _ hg hg', cLS.inj _ _ _ _ hh hh']⟩
theorem cSetN_stable : cSetN.Stable := fun _ _ _ _ hs ⟨o, g, h, e, hg, hh⟩ => ⟨o, g, h, e, cL_stable _ _ _ _ hs hg, cL_stable _ _ _ _ hs hh⟩
/-- A simulator's tape: TauX, Mu, S, T2, L, R. -/
abbrev StN : Type := Nat × Nat × Nat × Nat × List Nat × List Nat
def stNL (t : StN) (l r : Value) : List Value := [l, r] ++ encS t.1 ++ encS t.2.1 ++ encS t.2.2.1 ++ encS t.2.2.2.1
theorem stNL_len (t : StN) (l r : Value) : (stNL t l r).length = 18 := rfl
theorem stNL_one {t : StN} {l r : Value} (hl : l.oneCell' = true) (hr : r.oneCell' = true) : (stNL t l r).all (·.oneCell') = true := by
  simp only [stNL, List.all_append, one_encS, List.all_cons, List.all_nil, hl, hr, Bool.and_true]
def okSt (t : StN) : Prop := t.1 < W256 ∧ t.2.1 < W256 ∧ t.2.2.1 < W256 ∧ t.2.2.2.1 < W256
def cStN : Cod StN := ⟨fun w v p => okSt p ∧ ∃ l r, v = .agg (stNL p l r).toArray ∧ cLS.rd w l p.2.2.2.2.1 ∧ cLS.rd w r p.2.2.2.2.2, fun w v ⟨a, b, c, d, G, H⟩ ⟨a', b', c', d', G', H'⟩ ⟨⟨o1, o2, o3, o4⟩, g, h, e, hg, hh⟩ ⟨⟨o1', o2', o3', o4'⟩, g', h', e', hg', hh'⟩ => by
  dsimp only at hg hh hg' hh' o1 o2 o3 o4 o1' o2' o3' o4'
  rw [e] at e'
  simp only [Value.agg.injEq] at e'
  have e' := congrArg Array.toList e'
  simp only [stNL, List.append_assoc] at e'
  obtain ⟨e0, e'⟩ := List.append_inj e' rfl
  obtain ⟨e1, e'⟩ := List.append_inj e' rfl
  obtain ⟨e2, e'⟩ := List.append_inj e' rfl
  obtain ⟨e3, e4⟩ := List.append_inj e' rfl
  simp only [List.cons.injEq, and_true] at e0
  obtain ⟨rfl, rfl⟩ := e0
  rw [encS_inj o1 o1' e1, encS_inj o2 o2' e2, encS_inj o3 o3' e3, encS_inj o4 o4' e4, cLS.inj _ _ _ _ hg hg', cLS.inj _ _ _ _ hh hh']⟩
def ann43 : Ann := ⟨[], [23], 70, [], [], none, [], []⟩
theorem vc43 (X : Ctx) (β : Nat → Nat) (x0 x1 x2 : Value) : (run Tryz.prog ann43 43 [.x (.v 0), .l [.v 1, .v 2]] [] [] 4).den X (env0 [x0, x1, x2] X.w0) 4 β 0 (fun _ _ _ => False) = (
 Ask (rAgg 14 x0) fun x4 =>
 Ask (rSel (aggArr x4) 0 1 false) fun _ =>
 Ask (rSel (aggArr x4) 1 1 false) fun _ =>
 Ask (rSel (aggArr x4) 2 1 false) fun _ =>
 Ask (rSel (aggArr x4) 3 1 false) fun _ =>
 Ask (rSel (aggArr x4) 4 1 false) fun _ =>
 Ask (rSel (aggArr x4) 5 1 false) fun _ =>
 Ask (rSel (aggArr x4) 6 1 false) fun _ =>
 Ask (rSel (aggArr x4) 7 1 false) fun _ =>
 Ask (rSel (aggArr x4) 8 1 false) fun _ =>
 Ask (rSel (aggArr x4) 9 1 false) fun _ =>
 Ask (rSel (aggArr x4) 10 1 false) fun _ =>
 Ask (rSel (aggArr x4) 11 1 false) fun _ =>
 Ask (rSel (aggArr x4) 12 1 false) fun x17 =>
 Ask (rSel (aggArr x4) 13 1 false) fun x18 =>
 AskNew X.w0 fun _ =>
 AskNew X.w0 fun _ =>
 Ask (rLen X.P 40 x17) fun x19 =>
 AskF X 23 [(.agg #[x1, x2])] fun x20 =>
 Ask (rBin X.P .geq 3 false false x19 x20) fun x21 =>
 AskG [(x21, true)] (rLen X.P 40 x18) fun x22 =>
 AskGF X [(x21, true)] 23 [(.agg #[x1, x2])] fun x23 =>
 AskG [(x21, true)] (rBin X.P .geq 3 false false x22 x23) fun x24 =>
 Ask (rPick x21 x24 (.bool false)) fun x25 =>
 Ret X X.w0 [] [] x25) := by kernel_rfl
def cEn : Contract := fnW (Cods.cons cSetN (Cods.cons cPi Cods.nil)) (fun _ _ => True) (fun p _ v _ => v = .bool (enB p.2.1.1 p.2.1.2 p.1.2.2.2.1.length p.1.2.2.2.2.length))
theorem keepsEn : Keeps1 Tryz.prog GT 43 cEn := by
  refine keepsW (T := Ten') (A := ann43) hMix keepTen' hGT (calls_of (by kernel_rfl)) (callsW_of (by kernel_rfl)) fun args ⟨p, ⟨b, c⟩, _⟩ w0 hrd _ _ => ?_
  obtain ⟨_, _, rfl, ⟨_, g, h, rfl, hg, hh⟩, _, _, rfl, rfl, rfl⟩ := hrd
  dsimp only at hg hh
  refine ⟨[.x (.v 0), .l [.v 1, .v 2]], [], [], 4, env0 [.agg (setL p g h).toArray, .int .i64 b, .int .i64 c] w0, fun b => b, 0, rfl, rfl, fun X hX => mem_none hX rfl, fun X hP hS hw hX hR => ?_⟩
  subst hw; try dsimp only at hR
  rw [vc43 X]
  refine a_agg (setL_len _ _ _) (setL_one (slAt_one hg.1) (slAt_one hh.1)) ?_
  iterate 12 refine a_sel1 rfl ?_
  refine a_sel1 (v := g) rfl ?_
  refine a_sel1 (v := h) rfl ?_
  intro _ _ _ _
  refine a_len hP tyL hg.1 ?_
  refine call_PE hS (T := Ten') (f := 23) rfl (b, c) trivial ?_
  rw [ask_geq]
  by_cases h1 : sizeI b c ≤ (p.2.2.2.1.length : Int)
  · rw [decide_eq_true h1]
    refine a_G_on condsV1 (a_len hP tyL hh.1 ?_)
    refine a_GF_on condsV1 (call_PE hS (T := Ten') (f := 23) rfl (b, c) trivial ?_)
    refine a_G_on condsV1 ?_
    rw [ask_geq, ask_pickT]
    exact hR _ _ _ _ fun _ _ => by simp only [enB]; rw [decide_eq_true h1, Bool.true_and]
  · rw [decide_eq_false h1]
    refine a_G_off (condsV1_not (by decide)) fun _ => ?_
    refine a_GF_off (condsV1_not (by decide)) fun _ => ?_
    refine a_G_off (condsV1_not (by decide)) fun _ => ?_
    rw [ask_pickF]
    exact hR _ _ _ _ fun _ _ => by simp only [enB]; rw [decide_eq_false h1, Bool.false_and]
/-! ### openings of the program's -/
theorem tyOP : ElTy Tryz.prog 47 116 5 40 (.agg #[U 0, U 0, U 0, U 0, U 0]) := ⟨by kernel_rfl, by kernel_rfl⟩
theorem aggOP : agg? Tryz.prog 116 = some true := by kernel_rfl
theorem szOP : sz Tryz.prog 116 = some 5 := by kernel_rfl
theorem fdOPV : FdTy Tryz.prog 116 0 0 := ⟨0, by kernel_rfl⟩
theorem len_max {α : Type} {enc : α → List Value} {ok : α → Prop} {w : World} {v : Value} {l : List α} (h : Ls enc ok w v l) : l.length ≤ maxLen := by
  rcases h.1 with ⟨_, hn, _⟩ | ⟨_, _, _, _, hn, _⟩
  · omega
  · exact Nat.le_trans hn.1 hn.2
section
variable {X : Ctx} {u : World} {v : Value} {n i : Nat} {ow : List Nat} {K : Value → Prop} {l : List (Nat × Nat)}
/-- Opening i. -/
theorem ld_OP (hP : X.P = Tryz.prog) (hk : Kn X u) (h : SlAt u v n (l.flatMap encO)) (hn : l.length = n) (hi : i < l.length) (how : ∀ b, v.ownBlock = some b → b ∉ ow)
    (hK : K (.agg (encO (l.getD i (0, 0))).toArray)) : Ask (rIad X.P 47 v (J i)) fun p => Ask (rLoad X u ow 116 p) K := by
  refine a_iadN hP tyOP h (by omega) ?_
  refine a_load_agg (cs := encO l[i]) hk h (by rw [hP]; exact aggOP) (by rw [hP]; exact szOP) how (by simp [encO]) (flat_at encO_len l i _ (List.getElem?_eq_getElem hi)) ?_
  rw [← getD_O hi]; exact hK
/-- The value of opening i. -/
theorem ld_OPV (hP : X.P = Tryz.prog) (hk : Kn X u) (h : SlAt u v n (l.flatMap encO)) (hn : l.length = n) (hi : i < l.length) (how : ∀ b, v.ownBlock = some b → b ∉ ow)
    (hK : K (U (vAt l i))) : Ask (rIad X.P 47 v (J i)) fun p => Ask (rFad X.P 116 p 0) fun q => Ask (rLoad X u ow 22 q) K := by
  refine a_iadN hP tyOP h (by omega) ?_
  refine a_fad h (by omega) hP fdOPV ?_
  refine a_load_one hk h (by rw [hP]; exact aggU64) how (flat_at encO_len l i _ (List.getElem?_eq_getElem hi) 0 (U l[i].1) rfl) ?_
  rw [← getD_O hi]; exact hK
/-- An opening, cell by cell. -/
theorem a_cellsO {K : Value → Value → Value → Value → Value → Prop} {p : Nat × Nat} (hK : K (U p.1) (U (lb p.2 0)) (U (lb p.2 1)) (U (lb p.2 2)) (U (lb p.2 3))) :
    Ask (rAgg 5 (.agg (encO p).toArray)) fun x => Ask (rSel (aggArr x) 0 1 false) fun a => Ask (rSel (aggArr x) 1 1 false) fun b => Ask (rSel (aggArr x) 2 1 false) fun c => Ask (rSel (aggArr x) 3 1 false) fun d => Ask (rSel (aggArr x) 4 1 false) fun e => K a b c d e :=
  a_agg (encO_len _) (one_encO _) (a_sel1 (v := U p.1) rfl (a_sel1 (v := U (lb p.2 0)) rfl (a_sel1 (v := U (lb p.2 1)) rfl (a_sel1 (v := U (lb p.2 2)) rfl (a_sel1 (v := U (lb p.2 3)) rfl hK)))))
/-- The scalar of line i. -/
theorem ld_LK {l : List Nat} (hP : X.P = Tryz.prog) (hk : Kn X u) (h : SlAt u v n (l.flatMap encS)) (hn : l.length = n) (hi : i < l.length) (how : ∀ b, v.ownBlock = some b → b ∉ ow)
    (hK : K (S (l.getD i 0))) : Ask (rIad X.P 40 v (J i)) fun p => Ask (rFad X.P 31 p 0) fun q => Ask (rLoad X u ow 29 q) K := by
  have e : l.getD i 0 = l[i] := by rw [List.getD_eq_getElem?_getD, List.getElem?_eq_getElem hi]; rfl
  refine a_iadN hP tyL h (by omega) ?_
  refine a_fad h (by omega) hP fdLine ?_
  refine a_load_agg (cs := encS l[i]) hk h (by rw [hP]; exact aggS) (by rw [hP]; exact szS) how (by simp [encS]) (flat_at encS_len l i _ (List.getElem?_eq_getElem hi)) ?_
  rw [← e]; exact hK
end
def ann44 : Ann := ⟨[(3, ([16], []))], [86], 70, [], [], none, [], []⟩
def kb44_0 (b0 : Nat) (x0 x1 : Value) : List KB := [⟨b0, true, 45, #[x0, x1]⟩]
theorem vc44 (X : Ctx) (β : Nat → Nat) (x0 x1 x2 : Value) : (run Tryz.prog ann44 44 [.l [.v 0, .v 1], .x (.v 2)] [] [] 4).den X (env0 [x0, x1, x2] X.w0) 4 β 0 (fun _ _ _ => False) = (
 AskNew X.w0 fun b0 =>
 AskF X 86 [(.agg #[x0, x1])] fun x4 =>
 Ask (rExt X.P x4 0) fun x5 =>
 Ask (rExt X.P x4 1) fun x6 =>
 Ask (rLen X.P 47 x2) fun x7 =>
 ∃ (I0 : List Value → World → Prop) (μ0 : List Value → World → Nat), (∀ w, KnownV X X.w0 [] (kb44_0 b0 x0 x1) w → I0 [(J 0)] w) ∧ ∀ x8 w9, I0 [x8] w9 →
 Ask (rBin X.P .lss 3 false false x8 x7) fun x10 =>
 (∃ t, x10 = .bool t) ∧ (x10 = .bool true →
 Ask (rIad X.P 47 x2 x8) fun x11 =>
 Ask (rLoad X w9 [] 116 x11) fun x12 =>
 AskNew w9 fun b1 =>
 Ask (rAgg 5 x12) fun x13 =>
 Ask (rSel (aggArr x13) 0 1 false) fun x14 =>
 Ask (rSel (aggArr x13) 1 1 false) fun _ =>
 Ask (rSel (aggArr x13) 2 1 false) fun _ =>
 Ask (rSel (aggArr x13) 3 1 false) fun _ =>
 Ask (rSel (aggArr x13) 4 1 false) fun _ =>
 AskG [(x6, true)] (rBin X.P .geq 22 false false x14 x5) fun x19 =>
 Ask (rPick x6 x19 (.bool false)) fun x20 =>
 (∃ t, x20 = .bool t) ∧ (x20 = .bool true →
 Ret X w9 [b1] [] (.bool false)) ∧ (x20 = .bool false →
 Ask (rBin X.P .add 3 false true x8 (J 1)) fun x21 =>
 Again X w9 [b1] [] fun w => I0 [x21] w ∧ μ0 [x21] w < μ0 [x8] w9)) ∧ (x10 = .bool false →
 Ret X w9 [] [] (.bool true))) := by kernel_rfl
def Tft : Table := T0.add 86 cTop
theorem keepTft : AllKeep Tryz.prog GT Tft := keepT0.add keepsTop
def cFt : Contract := fnW (Cods.cons cPn (Cods.cons cLO Cods.nil)) (fun p _ => 0 < p.1.1 ∧ p.1.1 ≤ 64) (fun p _ v _ => v = .bool (!badV p.1.1 p.2.1))
theorem keepsFt : Keeps1 Tryz.prog GT 44 cFt := by
  refine keepsW (T := Tft) (A := ann44) hMix keepTft hGT (calls_of (by kernel_rfl)) (callsW_of (by kernel_rfl)) fun args ⟨⟨m, n⟩, l, _⟩ w0 hrd hpre _ => ?_
  obtain ⟨_, _, rfl, rfl, v, _, rfl, hv, rfl⟩ := hrd
  dsimp only at hv hpre
  replace hv : LsO w0 v l := hv
  obtain ⟨hm0, hm1⟩ := hpre
  have hmx := len_max hv
  unfold maxLen at hmx
  refine ⟨[.l [.v 0, .v 1], .x (.v 2)], [], [], 4, env0 [J m, J n, v] w0, fun b => b, 0, rfl, rfl, fun X hX => mem_none hX rfl, fun X hP hS hw hX hR => ?_⟩
  subst hw; try dsimp only at hR
  rw [vc44 X]
  intro b0 hb0
  obtain ⟨top, ok, htop, hcond⟩ : ∃ (top : Nat) (ok : Bool), (if 64 ≤ m then Value.tuple #[U 0, .bool false] else .tuple #[U (2 ^ m), .bool true]) = .tuple #[U top, .bool ok] ∧ ∀ x : Nat, (ok && decide (top ≤ x)) = (decide ((m : Int) < 64) && decide (2 ^ (m : Int).toNat ≤ x)) := by
    by_cases h : 64 ≤ m
    · exact ⟨0, false, if_pos h, fun x => by rw [decide_eq_false (show ¬ (m : Int) < 64 by omega)]; rfl⟩
    · exact ⟨2 ^ m, true, if_neg h, fun x => by rw [decide_eq_true (show (m : Int) < 64 by omega), Int.toNat_natCast]⟩
  refine call_PE hS (T := Tft) (f := 86) rfl (m, (n : Int)) ⟨hm0, hm1⟩ ?_
  dsimp only
  rw [htop, ask_ext0, ask_ext1]
  refine a_len hP tyOP hv.1 ?_
  refine ⟨fun a w => ∃ i, a = [J i] ∧ i ≤ l.length ∧ Kn X w ∧ badV m (l.take i) = false, fun a _ => match a with | i :: _ => l.length - intNat i | _ => 0, fun w hw => ⟨0, rfl, Nat.zero_le _, hw.kn, by simp [badV]⟩, ?_⟩
  rintro _ w ⟨i, he, hi, hk, hb⟩
  simp only [List.cons.injEq, and_true] at he
  obtain rfl := he
  rw [ask_lssN]
  refine a_ifD (fun hlt => ?_) fun hge => ?_
  · refine ld_OP hP hk (hv.1.stp0 (hk.stp0 hX)) rfl hlt (fun _ _ => List.not_mem_nil) ?_
    intro b1 hb1
    refine a_cellsO ?_
    refine a_and1 (d := decide (top ≤ vAt l i)) (fun _ K' hK => by unfold U; rw [ask_geq, decide_eq_decide.2 Int.ofNat_le]; exact hK) ?_
    rw [hcond]
    refine a_if (fun hbad => hR _ _ _ _ fun _ _ => by rw [badV_some hlt hbad]; rfl) fun hbad => ?_
    rw [ask_succ (by omega)]
    intro w2 hw2
    exact ⟨⟨i + 1, rfl, hlt, hw2.kn, by rw [badV_take hlt, hb, hbad]; rfl⟩, by simp [intNat]; omega⟩
  · obtain rfl : i = l.length := by omega
    rw [List.take_length] at hb
    exact hR _ _ _ _ fun _ _ => by rw [hb]; rfl
def ann45 : Ann := ⟨[(2, ([7], []))], [30], 70, [], [4], none, [], []⟩
theorem vc45 (X : Ctx) (β : Nat → Nat) (x0 : Value) : (run Tryz.prog ann45 45 [.x (.v 0)] [] [] 2).den X (env0 [x0] X.w0) 2 β 0 (fun _ _ _ => False) = (
 Ask (rLen X.P 28 x0) fun x2 =>
 ∃ (I0 : List Value → World → Prop) (μ0 : List Value → World → Nat), (∀ w, KnownV X X.w0 [] [] w → I0 [(J 0)] w) ∧ ∀ x3 w4, I0 [x3] w4 →
 Ask (rBin X.P .lss 3 false false x3 x2) fun x5 =>
 (∃ t, x5 = .bool t) ∧ (x5 = .bool true →
 Ask (rIad X.P 28 x0 x3) fun x6 =>
 Ask (rLoad X w4 [] 29 x6) fun x7 =>
 Ask (rAgg 4 (.agg #[(U 0), (U 0), (U 0), (U 0)])) fun _ =>
 AskNew w4 fun b0 =>
 Ask (rAgg 4 x7) fun x9 =>
 AskF X 30 [x9] fun x10 =>
 (∃ t, x10 = .bool t) ∧ (x10 = .bool true →
 Ret X w4 [b0] [] (.bool true)) ∧ (x10 = .bool false →
 Ask (rBin X.P .add 3 false true x3 (J 1)) fun x11 =>
 Again X w4 [b0] [] fun w => I0 [x11] w ∧ μ0 [x11] w < μ0 [x3] w4)) ∧ (x5 = .bool false →
 Ret X w4 [] [] (.bool false))) := by kernel_rfl
def Tzo : Table := T0.add 30 cqIsZ
theorem keepTzo : AllKeep Tryz.prog GT Tzo := keepT0.add keepsqIsZ
def zerL (l : List Nat) : Bool := l.any fun n => decide (rF n = 0)
theorem zerL_take {l : List Nat} {i : Nat} (hi : i < l.length) : zerL (l.take (i + 1)) = (zerL (l.take i) || decide (rF (l.getD i 0) = 0)) := by
  have e : l.take (i + 1) = l.take i ++ [l[i]] := List.take_succ_eq_append_getElem hi
  have e2 : l.getD i 0 = l[i] := by rw [List.getD_eq_getElem?_getD, List.getElem?_eq_getElem hi]; rfl
  unfold zerL
  rw [e, List.any_append, e2]
  simp
def cZo : Contract := fnW (Cods.cons cLS Cods.nil) (fun _ _ => True) (fun p _ v _ => v = .bool (zerL p.1))
theorem keepsZo : Keeps1 Tryz.prog GT 45 cZo := by
  refine keepsW (T := Tzo) (A := ann45) hMix keepTzo hGT (calls_of (by kernel_rfl)) (callsW_of (by kernel_rfl)) fun args ⟨l, _⟩ w0 hrd hpre hg => ?_
  obtain ⟨v, _, rfl, hv, rfl⟩ := hrd
  dsimp only at hv
  have hmx := len_max hv
  unfold maxLen at hmx
  refine ⟨[.x (.v 0)], [], [], 2, env0 [v] w0, fun b => b, 0, rfl, rfl, fun X hX => mem_none hX rfl, fun X hP hS hw hX hR => ?_⟩
  subst hw; try dsimp only at hR
  rw [vc45 X]
  refine a_len hP tySI hv.1 ?_
  refine ⟨fun a w => ∃ i, a = [J i] ∧ i ≤ l.length ∧ Kn X w ∧ zerL (l.take i) = false, fun a _ => match a with | i :: _ => l.length - intNat i | _ => 0, fun w hw => ⟨0, rfl, Nat.zero_le _, hw.kn, by simp [zerL]⟩, ?_⟩
  rintro _ w ⟨i, he, hi, hk, hb⟩
  simp only [List.cons.injEq, and_true] at he
  obtain rfl := he
  rw [ask_lssN]
  refine a_ifD (fun hlt => ?_) fun hge => ?_
  · have hW : l.getD i 0 < W256 := by
      rw [List.getD_eq_getElem?_getD, List.getElem?_eq_getElem hlt]; exact hv.2 _ (List.getElem_mem hlt)
    refine ld_SN hP hk (hv.1.stp0 (hk.stp0 hX)) rfl hlt (fun _ _ => List.not_mem_nil) ?_
    rw [ask_zero4]; intro b0 hb0
    rw [ask_aggS]
    refine call_PE hS (T := Tzo) (f := 30) rfl (l.getD i 0) hW ?_
    have et := zerL_take hlt
    rw [hb, Bool.false_or] at et
    refine a_if (fun h => hR _ _ _ _ fun _ _ => ?_) fun h => ?_
    · have h1 : zerL l = true := by
        unfold zerL
        rw [List.any_eq_true]
        exact ⟨l[i], List.getElem_mem hlt, by rw [List.getD_eq_getElem?_getD, List.getElem?_eq_getElem hlt] at h; exact h⟩
      rw [h1]
    · rw [ask_succ (by omega)]
      intro w2 hw2
      exact ⟨⟨i + 1, rfl, hlt, hw2.kn, by rw [et, h]⟩, by simp [intNat]; omega⟩
  · obtain rfl : i = l.length := by omega
    rw [List.take_length] at hb
    exact hR _ _ _ _ fun _ _ => by rw [hb]
def ann50 : Ann := ⟨[(3, ([10], [1]))], [29, 49], 70, [], [4, 5, 7], none, [], []⟩
def kb50_0 (b0 b1 : Nat) (x3 x4 : Value) : List KB := [⟨b0, true, 29, (aggArr x3)⟩, ⟨b1, true, 29, (aggArr x4)⟩]
theorem vc50 (X : Ctx) (β : Nat → Nat) (x0 x1 : Value) : (run Tryz.prog ann50 50 [.x (.v 0), .x (.v 1)] [] [] 3).den X (env0 [x0, x1] X.w0) 3 β 0 (fun _ _ _ => False) = (
 Ask (rAgg 4 (.agg #[(U 0), (U 0), (U 0), (U 0)])) fun x3 =>
 AskNew X.w0 fun b0 =>
 Ask (rAgg 4 (.agg #[(U 0), (U 0), (U 0), (U 0)])) fun x4 =>
 AskNew X.w0 fun b1 =>
 Ask (rLen X.P 28 x1) fun x5 =>
 ∃ (I0 : List Value → World → Prop) (μ0 : List Value → World → Nat), (∀ w, KnownV X X.w0 [] (kb50_0 b0 b1 x3 x4) w → I0 [(J 0), x4] w) ∧ ∀ x6 x7 w8, I0 [x6, x7] w8 →
 Ask (rBin X.P .lss 3 false false x6 x5) fun x9 =>
 (∃ t, x9 = .bool t) ∧ (x9 = .bool true →
 Ask (rIad X.P 28 x1 x6) fun x10 =>
 Ask (rLoad X w8 [] 29 x10) fun x11 =>
 Ask (rAgg 4 (.agg #[(U 0), (U 0), (U 0), (U 0)])) fun _ =>
 AskNew w8 fun b2 =>
 Ask (rAgg 4 x11) fun x13 =>
 Ask (rIad X.P 40 x0 x6) fun x14 =>
 Ask (rFad X.P 31 x14 0) fun x15 =>
 Ask (rLoad X w8 [b2] 29 x15) fun x16 =>
 AskF X 49 [x13, x16] fun x17 =>
 AskF X 29 [x7, x17] fun x18 =>
 Ask (rAgg 4 x18) fun x19 =>
 Ask (rBin X.P .add 3 false true x6 (J 1)) fun x20 =>
 Again X w8 [b1, b2] [] fun w => I0 [x20, x19] w ∧ μ0 [x20, x19] w < μ0 [x6, x7] w8) ∧ (x9 = .bool false →
 Ask (rAgg 4 x7) fun x10 =>
 Ret X w8 [b0] [] x10)) := by kernel_rfl
def Tlg : Table := (T0.add 29 cqAdd).add 49 cqMul
theorem keepTlg : AllKeep Tryz.prog GT Tlg := (keepT0.add keepsqAdd).add keepsqMul
def logF (G : List Nat) (a : Nat → F) (n : Nat) : F := sumF' (fun i => a i * rF (G.getD i 0)) n
def cLog : Contract := fnW (Cods.cons cLS (Cods.cons cLF Cods.nil)) (fun p _ => p.2.1.length ≤ p.1.length) (fun p _ v _ => v = S (logF p.1 (fun i => p.2.1.getD i 0) p.2.1.length).val)
theorem keepsLog : Keeps1 Tryz.prog GT 50 cLog := by
  refine keepsW (T := Tlg) (A := ann50) hMix keepTlg hGT (calls_of (by kernel_rfl)) (callsW_of (by kernel_rfl)) fun args ⟨G, a, _⟩ w0 hrd hpre hg => ?_
  obtain ⟨x, _, rfl, hG, y, _, rfl, ha, rfl⟩ := hrd
  dsimp only at hG ha hpre
  replace ha : LsF w0 y a := ha
  have hmx := len_max ha
  unfold maxLen at hmx
  refine ⟨[.x (.v 0), .x (.v 1)], [], [], 3, env0 [x, y] w0, fun b => b, 0, rfl, rfl, fun X hX => mem_none hX rfl, fun X hP hS hw hX hR => ?_⟩
  subst hw; try dsimp only at hR
  rw [vc50 X]
  rw [ask_zero4]; intro b0 hb0
  rw [ask_zero4]; intro b1 hb1
  refine a_len hP tySI ha.1 ?_
  refine ⟨fun q w => ∃ i, q = [J i, S (logF G (fun i => a.getD i 0) i).val] ∧ i ≤ a.length ∧ Kn X w, fun q _ => match q with | i :: _ => a.length - intNat i | _ => 0, fun w hw => ⟨0, rfl, Nat.zero_le _, hw.kn⟩, ?_⟩
  rintro _ _ w ⟨i, he, hi, hk⟩
  simp only [List.cons.injEq, and_true] at he
  obtain ⟨rfl, rfl⟩ := he
  rw [ask_lssN]
  refine a_ifD (fun hlt => ?_) fun hge => ?_
  · have s0 := hk.stp0 hX
    have hGi : i < G.length := by omega
    have hW : G.getD i 0 < W256 := by
      rw [List.getD_eq_getElem?_getD, List.getElem?_eq_getElem hGi]; exact hG.2 _ (List.getElem_mem hGi)
    refine ld_SF hP hk (ha.1.stp0 s0) rfl hlt (fun _ _ => List.not_mem_nil) ?_
    rw [ask_zero4]; intro b2 hb2
    rw [ask_aggS]
    refine ld_LK hP hk (hG.1.stp0 s0) rfl hGi (slAt_off (hG.1.stp0 s0) (by rw [flat_len encS_len]; omega) (by simpa using hb2)) ?_
    refine call_PE hS (T := Tlg) (f := 49) rfl (_, _) ⟨val_lt _, hW⟩ ?_
    dsimp only
    refine call_PE hS (T := Tlg) (f := 29) rfl (_, _) ⟨val_lt _, val_lt _⟩ ?_
    dsimp only
    rw [rF_val, rF_val, rF_val, ask_aggS, ask_succ (by omega)]
    intro w2 hw2
    exact ⟨⟨i + 1, rfl, hlt, hw2.kn⟩, by simp [intNat]; omega⟩
  · obtain rfl : i = a.length := by omega
    rw [ask_aggS]
    exact hR _ _ _ _ fun _ _ => rfl
#print axioms keepsLog
end Go.Vc
