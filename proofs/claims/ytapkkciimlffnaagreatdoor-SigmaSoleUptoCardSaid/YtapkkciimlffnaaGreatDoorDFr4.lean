/-
  Lists over the scalars (msm.Free): Same.
-/
import Derived.Test.YtapkkciimlffnaaGreatDoorDFr3
namespace Go.Vc
open Go Go.Proofs Go.RowKit

/-- Equal as sequences mod l that end in noughts. -/
def eqF (a b : List Nat) : Prop := ∀ i, a.getD i 0 % lN = b.getD i 0 % lN
def cFSame : Contract := fnW cFr2 (fun p _ => p.1.length ≤ mx ∧ p.2.length ≤ mx) (fun p _ v _ => ∃ t : Bool, v = .bool t ∧ (t = true ↔ eqF p.1 p.2))
def ann180 : Ann := ⟨[(4, ([19], []))], [8, 22], 70, [], [6], none, [], []⟩
def kb180_0 (b0 b1 : Nat) (x10 x11 : Value) : List KB := [⟨b0, true, 32, #[x10]⟩, ⟨b1, true, 32, #[x11]⟩]
def kb180_1 (b0 b1 : Nat) (x4 x6 : Value) : List KB := [⟨b0, true, 32, #[x4]⟩, ⟨b1, true, 32, #[x6]⟩]
theorem vc180 (X : Ctx) (β : Nat → Nat) (x0 x1 : Value) : (run Tryz.prog ann180 180 [.x (.v 0), .x (.v 1)] [] [] 3).den X (env0 [x0, x1] X.w0) 3 β 0 (fun _ _ _ => False) = (
  Ask (rAgg 1 x0) fun x3 =>
  Ask (rSel (aggArr x3) 0 1 false) fun x4 =>
  AskNew X.w0 fun b0 =>
  Ask (rAgg 1 x1) fun x5 =>
  Ask (rSel (aggArr x5) 0 1 false) fun x6 =>
  AskNew X.w0 fun b1 =>
  Ask (rLen X.P 22 x4) fun x7 =>
  Ask (rLen X.P 22 x6) fun x8 =>
  Ask (rBin X.P .lss 3 false false x7 x8) fun x9 =>
  (∃ t, x9 = .bool t) ∧ (x9 = .bool true →
    Ask (rPlain x6) fun x10 =>
    Ask (rPlain x4) fun x11 =>
    Ask (rLen X.P 22 x10) fun x12 =>
    ∃ (I0 : List Value → World → Prop) (μ0 : List Value → World → Nat), (∀ w, KnownV X X.w0 [b1, b0] (kb180_0 b0 b1 x10 x11) w → I0 [(J 0)] w) ∧ ∀ x13 w14, I0 [x13] w14 →
      Ask (rBin X.P .lss 3 false false x13 x12) fun x15 =>
      (∃ t, x15 = .bool t) ∧ (x15 = .bool true →
        Ask (rIad X.P 22 x10 x13) fun x16 =>
        Ask (rLoad X w14 [] 25 x16) fun x17 =>
        Ask (rAgg 4 (.agg #[(U 0), (U 0), (U 0), (U 0)])) fun _ =>
        AskNew w14 fun b2 =>
        Ask (rAgg 4 x17) fun x19 =>
        Ask (rLen X.P 22 x11) fun x20 =>
        Ask (rBin X.P .lss 3 false false x13 x20) fun x21 =>
        AskG [(x21, true)] (rIad X.P 22 x11 x13) fun x22 =>
        AskG [(x21, true)] (rLoad X w14 [b2] 25 x22) fun x23 =>
        AskGF X [(x21, true)] 8 [x19, x23] fun x24 =>
        AskG [(x21, true)] (rUn X.P .not x24) fun x25 =>
        Ask (rPick x21 x25 (.bool false)) fun x26 =>
        AskG [(x26, false)] (rLen X.P 22 x11) fun x27 =>
        AskG [(x26, false)] (rBin X.P .geq 3 false false x13 x27) fun x28 =>
        AskGF X [(x26, false), (x28, true)] 22 [x19] fun x29 =>
        AskG [(x26, false), (x28, true)] (rUn X.P .not x29) fun x30 =>
        AskG [(x26, false)] (rPick x28 x30 (.bool false)) fun x31 =>
        Ask (rPick x26 (.bool true) x31) fun x32 =>
        (∃ t, x32 = .bool t) ∧ (x32 = .bool true →
          Ret X w14 [b2] [] (.bool false)) ∧ (x32 = .bool false →
          Ask (rBin X.P .add 3 false true x13 (J 1)) fun x33 =>
          Again X w14 [b2] [] fun w => I0 [x33] w ∧ μ0 [x33] w < μ0 [x13] w14)) ∧ (x15 = .bool false →
        Ret X w14 [] [] (.bool true))) ∧ (x9 = .bool false →
    Ask (rLen X.P 22 x4) fun x10 =>
    ∃ (I0 : List Value → World → Prop) (μ0 : List Value → World → Nat), (∀ w, KnownV X X.w0 [] (kb180_1 b0 b1 x4 x6) w → I0 [(J 0)] w) ∧ ∀ x11 w12, I0 [x11] w12 →
      Ask (rBin X.P .lss 3 false false x11 x10) fun x13 =>
      (∃ t, x13 = .bool t) ∧ (x13 = .bool true →
        Ask (rIad X.P 22 x4 x11) fun x14 =>
        Ask (rLoad X w12 [] 25 x14) fun x15 =>
        Ask (rAgg 4 (.agg #[(U 0), (U 0), (U 0), (U 0)])) fun _ =>
        AskNew w12 fun b2 =>
        Ask (rAgg 4 x15) fun x17 =>
        Ask (rLen X.P 22 x6) fun x18 =>
        Ask (rBin X.P .lss 3 false false x11 x18) fun x19 =>
        AskG [(x19, true)] (rIad X.P 22 x6 x11) fun x20 =>
        AskG [(x19, true)] (rLoad X w12 [b2] 25 x20) fun x21 =>
        AskGF X [(x19, true)] 8 [x17, x21] fun x22 =>
        AskG [(x19, true)] (rUn X.P .not x22) fun x23 =>
        Ask (rPick x19 x23 (.bool false)) fun x24 =>
        AskG [(x24, false)] (rLen X.P 22 x6) fun x25 =>
        AskG [(x24, false)] (rBin X.P .geq 3 false false x11 x25) fun x26 =>
        AskGF X [(x24, false), (x26, true)] 22 [x17] fun x27 =>
        AskG [(x24, false), (x26, true)] (rUn X.P .not x27) fun x28 =>
        AskG [(x24, false)] (rPick x26 x28 (.bool false)) fun x29 =>
        Ask (rPick x24 (.bool true) x29) fun x30 =>
        (∃ t, x30 = .bool t) ∧ (x30 = .bool true →
          Ret X w12 [b2] [] (.bool false)) ∧ (x30 = .bool false →
          Ask (rBin X.P .add 3 false true x11 (J 1)) fun x31 =>
          Again X w12 [b2] [] fun w => I0 [x31] w ∧ μ0 [x31] w < μ0 [x11] w12)) ∧ (x13 = .bool false →
        Ret X w12 [] [] (.bool true)))) := by kernel_rfl
def Tsf : Table := (T0.add 8 cSameS).add 22 cIsZ
theorem keepTsf : AllKeep Tryz.prog GT Tsf := (keepT0.add keepsSame).add keepsIsZ
theorem getD_none {l : List Nat} {i : Nat} (h : l.length ≤ i) : l.getD i 0 = 0 := by rw [List.getD_eq_getElem?_getD, List.getElem?_eq_none h]; rfl
theorem eqF_of {a b : List Nat} (h : b.length ≤ a.length) (k : ∀ i, i < a.length → a.getD i 0 % lN = b.getD i 0 % lN) : eqF a b := fun i => by
  rcases Nat.lt_or_ge i a.length with hi | hi
  · exact k i hi
  · rw [getD_none hi, getD_none (Nat.le_trans h hi)]
theorem eqF_symm {a b : List Nat} (h : eqF a b) : eqF b a := fun i => (h i).symm
theorem keepsFSame : Keeps1 Tryz.prog GT 180 cFSame := by
  refine keepsW (T := Tsf) (A := ann180) hMix keepTsf hGT (calls_of (by kernel_rfl)) (callsW_of (by kernel_rfl)) fun args ⟨la, lb⟩ w0 hrd hpre hg => ?_
  obtain ⟨x, y, rfl, ha, hb⟩ := hrd
  dsimp only at ha hb hpre
  replace ha : Ls encS okS w0 x la := ha
  replace hb : Ls encS okS w0 y lb := hb
  simp only [mx] at hpre
  refine ⟨[.x (.v 0), .x (.v 1)], [], [], 3, env0 [.agg #[x], .agg #[y]] w0, fun b => b, 0, rfl, rfl, fun X hX => mem_none hX rfl, fun X hP hS hw hX hR => ?_⟩
  subst hw; try dsimp only at hR
  rw [vc180 X]
  refine a_agg (cs := [x]) rfl (by simp [slAt_one ha.1]) (a_sel1 rfl ?_)
  intro b0 hb0
  refine a_agg (cs := [y]) rfl (by simp [slAt_one hb.1]) (a_sel1 rfl ?_)
  intro b1 hb1
  refine a_len hP tyS' ha.1 ?_
  refine a_len hP tyS' hb.1 ?_
  rw [ask_lssN]
  refine a_ifD (fun hab => ?_) fun hab => ?_
  · refine a_plain (slAt_one hb.1) (a_plain (slAt_one ha.1) ?_)
    refine a_len hP tyS' hb.1 ?_
    refine ⟨fun a w => ∃ i, a = [J i] ∧ i ≤ lb.length ∧ (∀ j, j < i → lb.getD j 0 % lN = la.getD j 0 % lN) ∧ Kn X w, fun a _ => match a with | [i] => lb.length - intNat i | _ => 0,
      fun w hw => ⟨0, rfl, Nat.zero_le _, fun j hj => absurd hj (Nat.not_lt_zero _), hw.kn⟩, ?_⟩
    rintro _ w9 ⟨i, he, hi, hq, k9⟩
    simp only [List.cons.injEq, and_true] at he
    subst he
    rw [ask_lssN]
    refine a_ifD (fun hlt => ?_) fun hge => ?_
    · have hl9 := hb.1.stp0 (k9.stp0 hX)
      refine a_iadN hP tyS' hl9 hlt ?_
      refine a_load_agg (cs := encS lb[i]) k9 hl9 (hP ▸ aggS) (by rw [hP]; exact szS) (fun _ _ => List.not_mem_nil) (by simp [encS]) (flat_at encS_len lb i _ (List.getElem?_eq_getElem hlt)) ?_
      rw [ask_zero4]
      intro b2 hb2
      rw [agg_encS, ask_aggS]
      have okl := hb.2 _ (List.getElem_mem hlt)
      refine a_len hP tyS' ha.1 ?_
      rw [ask_lssN]
      have nx : lb[i] % lN = la.getD i 0 % lN → ∀ j, j < i + 1 → lb.getD j 0 % lN = la.getD j 0 % lN := fun h j hj => by
        rcases Nat.lt_succ_iff_lt_or_eq.1 hj with h' | rfl
        · exact hq j h'
        · rw [getD_at hlt]; exact h
      by_cases h2 : i < la.length
      · rw [decide_eq_true h2]
        have on : condsV [(Value.bool true, true)] := by simp [condsV]
        have hs9 := ha.1.stp0 (k9.stp0 hX)
        refine a_G_on on (a_iadN hP tyS' hs9 h2 ?_)
        refine a_G_on on (a_load_agg (cs := encS la[i]) k9 hs9 (hP ▸ aggS) (by rw [hP]; exact szS) (slAt_off hs9 (by rw [flat_len encS_len]; omega) (all1 hb2)) (by simp [encS]) (flat_at encS_len la i _ (List.getElem?_eq_getElem h2)) ?_)
        rw [agg_encS]
        refine a_GF_on on (call_PE hS (T := Tsf) (f := 8) rfl (lb[i], la[i]) ⟨okl, ha.2 _ (List.getElem_mem h2)⟩ ?_)
        refine a_G_on on ?_
        rw [ask_not, ask_pickT]
        rw [getD_at h2] at nx
        by_cases hc : lb[i] % lN = la[i] % lN
        · rw [decide_eq_true hc]
          have on1 : condsV [(Value.bool false, false)] := by simp [condsV]
          have off2 : ¬ condsV [(Value.bool false, false), (Value.bool false, true)] := by simp [condsV]
          refine a_G_on on1 (a_len hP tyS' ha.1 ?_)
          refine a_G_on on1 ?_
          rw [ask_geqN, decide_eq_false (by omega)]
          refine a_GF_off off2 fun _ => a_G_off off2 fun _ => a_G_on on1 ?_
          rw [ask_pickF, show (!true) = false from rfl, ask_pickF]
          refine a_if (fun h => by cases h) fun _ => ?_
          rw [ask_succ (by omega)]
          intro w18 hw18
          exact ⟨⟨i + 1, rfl, hlt, nx hc, hw18.kn⟩, by simp [intNat]; omega⟩
        · rw [decide_eq_false hc]
          have off1 : ¬ condsV [(Value.bool true, false)] := by simp [condsV]
          have off2 : ∀ v, ¬ condsV [(Value.bool true, false), (v, true)] := fun v => by simp [condsV]
          refine a_G_off off1 fun _ => a_G_off off1 fun _ => a_GF_off (off2 _) fun _ => a_G_off (off2 _) fun _ => a_G_off off1 fun _ => ?_
          rw [show (!false) = true from rfl, ask_pickT]
          refine a_if (fun _ => ?_) fun h => by cases h
          exact hR _ _ _ _ fun w hw => ⟨false, rfl, fun h => by (cases h), fun h => absurd (eqF_symm h i) (by rw [getD_at hlt, getD_at h2]; exact hc)⟩
      · rw [decide_eq_false h2]
        have off : ¬ condsV [(Value.bool false, true)] := by simp [condsV]
        have on1 : condsV [(Value.bool false, false)] := by simp [condsV]
        have on2 : condsV [(Value.bool false, false), (Value.bool true, true)] := by simp [condsV]
        refine a_G_off off fun _ => a_G_off off fun _ => a_GF_off off fun _ => a_G_off off fun _ => ?_
        rw [ask_pickF]
        refine a_G_on on1 (a_len hP tyS' ha.1 ?_)
        refine a_G_on on1 ?_
        rw [ask_geqN, decide_eq_true (by omega)]
        refine a_GF_on on2 (call_PE hS (T := Tsf) (f := 22) rfl lb[i] okl ?_)
        refine a_G_on on2 ?_
        rw [ask_not]
        refine a_G_on on1 ?_
        rw [ask_pickT, ask_pickF]
        have h0 : la.getD i 0 = 0 := getD_none (by omega)
        rw [h0] at nx
        refine a_if (fun h => ?_) fun h => ?_
        · refine hR _ _ _ _ fun w hw => ⟨false, rfl, fun h => by (cases h), fun h' => ?_⟩
          have := eqF_symm h' i
          rw [getD_at hlt, h0] at this
          replace this : lb[i] % lN = 0 := this
          rw [decide_eq_true this] at h
          cases h
        · rw [ask_succ (by omega)]
          intro w18 hw18
          refine ⟨⟨i + 1, rfl, hlt, nx ?_, hw18.kn⟩, by simp [intNat]; omega⟩
          have : decide (lb[i] % lN = 0) = true := by simpa using h
          exact of_decide_eq_true this
    · obtain rfl : i = lb.length := by omega
      exact hR _ _ _ _ fun w hw => ⟨true, rfl, fun _ => eqF_symm (eqF_of (by omega) hq), fun _ => rfl⟩
  · skip
    refine a_len hP tyS' ha.1 ?_
    refine ⟨fun a w => ∃ i, a = [J i] ∧ i ≤ la.length ∧ (∀ j, j < i → la.getD j 0 % lN = lb.getD j 0 % lN) ∧ Kn X w, fun a _ => match a with | [i] => la.length - intNat i | _ => 0,
      fun w hw => ⟨0, rfl, Nat.zero_le _, fun j hj => absurd hj (Nat.not_lt_zero _), hw.kn⟩, ?_⟩
    rintro _ w9 ⟨i, he, hi, hq, k9⟩
    simp only [List.cons.injEq, and_true] at he
    subst he
    rw [ask_lssN]
    refine a_ifD (fun hlt => ?_) fun hge => ?_
    · have hl9 := ha.1.stp0 (k9.stp0 hX)
      refine a_iadN hP tyS' hl9 hlt ?_
      refine a_load_agg (cs := encS la[i]) k9 hl9 (hP ▸ aggS) (by rw [hP]; exact szS) (fun _ _ => List.not_mem_nil) (by simp [encS]) (flat_at encS_len la i _ (List.getElem?_eq_getElem hlt)) ?_
      rw [ask_zero4]
      intro b2 hb2
      rw [agg_encS, ask_aggS]
      have okl := ha.2 _ (List.getElem_mem hlt)
      refine a_len hP tyS' hb.1 ?_
      rw [ask_lssN]
      have nx : la[i] % lN = lb.getD i 0 % lN → ∀ j, j < i + 1 → la.getD j 0 % lN = lb.getD j 0 % lN := fun h j hj => by
        rcases Nat.lt_succ_iff_lt_or_eq.1 hj with h' | rfl
        · exact hq j h'
        · rw [getD_at hlt]; exact h
      by_cases h2 : i < lb.length
      · rw [decide_eq_true h2]
        have on : condsV [(Value.bool true, true)] := by simp [condsV]
        have hs9 := hb.1.stp0 (k9.stp0 hX)
        refine a_G_on on (a_iadN hP tyS' hs9 h2 ?_)
        refine a_G_on on (a_load_agg (cs := encS lb[i]) k9 hs9 (hP ▸ aggS) (by rw [hP]; exact szS) (slAt_off hs9 (by rw [flat_len encS_len]; omega) (all1 hb2)) (by simp [encS]) (flat_at encS_len lb i _ (List.getElem?_eq_getElem h2)) ?_)
        rw [agg_encS]
        refine a_GF_on on (call_PE hS (T := Tsf) (f := 8) rfl (la[i], lb[i]) ⟨okl, hb.2 _ (List.getElem_mem h2)⟩ ?_)
        refine a_G_on on ?_
        rw [ask_not, ask_pickT]
        rw [getD_at h2] at nx
        by_cases hc : la[i] % lN = lb[i] % lN
        · rw [decide_eq_true hc]
          have on1 : condsV [(Value.bool false, false)] := by simp [condsV]
          have off2 : ¬ condsV [(Value.bool false, false), (Value.bool false, true)] := by simp [condsV]
          refine a_G_on on1 (a_len hP tyS' hb.1 ?_)
          refine a_G_on on1 ?_
          rw [ask_geqN, decide_eq_false (by omega)]
          refine a_GF_off off2 fun _ => a_G_off off2 fun _ => a_G_on on1 ?_
          rw [ask_pickF, show (!true) = false from rfl, ask_pickF]
          refine a_if (fun h => by cases h) fun _ => ?_
          rw [ask_succ (by omega)]
          intro w18 hw18
          exact ⟨⟨i + 1, rfl, hlt, nx hc, hw18.kn⟩, by simp [intNat]; omega⟩
        · rw [decide_eq_false hc]
          have off1 : ¬ condsV [(Value.bool true, false)] := by simp [condsV]
          have off2 : ∀ v, ¬ condsV [(Value.bool true, false), (v, true)] := fun v => by simp [condsV]
          refine a_G_off off1 fun _ => a_G_off off1 fun _ => a_GF_off (off2 _) fun _ => a_G_off (off2 _) fun _ => a_G_off off1 fun _ => ?_
          rw [show (!false) = true from rfl, ask_pickT]
          refine a_if (fun _ => ?_) fun h => by cases h
          exact hR _ _ _ _ fun w hw => ⟨false, rfl, fun h => by (cases h), fun h => absurd (id h i) (by rw [getD_at hlt, getD_at h2]; exact hc)⟩
      · rw [decide_eq_false h2]
        have off : ¬ condsV [(Value.bool false, true)] := by simp [condsV]
        have on1 : condsV [(Value.bool false, false)] := by simp [condsV]
        have on2 : condsV [(Value.bool false, false), (Value.bool true, true)] := by simp [condsV]
        refine a_G_off off fun _ => a_G_off off fun _ => a_GF_off off fun _ => a_G_off off fun _ => ?_
        rw [ask_pickF]
        refine a_G_on on1 (a_len hP tyS' hb.1 ?_)
        refine a_G_on on1 ?_
        rw [ask_geqN, decide_eq_true (by omega)]
        refine a_GF_on on2 (call_PE hS (T := Tsf) (f := 22) rfl la[i] okl ?_)
        refine a_G_on on2 ?_
        rw [ask_not]
        refine a_G_on on1 ?_
        rw [ask_pickT, ask_pickF]
        have h0 : lb.getD i 0 = 0 := getD_none (by omega)
        rw [h0] at nx
        refine a_if (fun h => ?_) fun h => ?_
        · refine hR _ _ _ _ fun w hw => ⟨false, rfl, fun h => by (cases h), fun h' => ?_⟩
          have := id h' i
          rw [getD_at hlt, h0] at this
          replace this : la[i] % lN = 0 := this
          rw [decide_eq_true this] at h
          cases h
        · rw [ask_succ (by omega)]
          intro w18 hw18
          refine ⟨⟨i + 1, rfl, hlt, nx ?_, hw18.kn⟩, by simp [intNat]; omega⟩
          have : decide (la[i] % lN = 0) = true := by simpa using h
          exact of_decide_eq_true this
    · obtain rfl : i = la.length := by omega
      exact hR _ _ _ _ fun w hw => ⟨true, rfl, fun _ => id (eqF_of (by omega) hq), fun _ => rfl⟩
#print axioms keepsFSame
end Go.Vc
