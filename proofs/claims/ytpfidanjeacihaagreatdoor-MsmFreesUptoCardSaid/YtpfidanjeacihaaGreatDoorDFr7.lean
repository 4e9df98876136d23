/-
  Lists over the scalars, both sides: FreeIs, E.Same.
-/
import Derived.Test.YtpfidanjeacihaaGreatDoorDFr6
namespace Go.Vc
open Go Go.Proofs Go.RowKit

theorem list_eq_of {a b : List Nat} (hl : a.length = b.length) (h : ∀ i, i < a.length → a.getD i 0 = b.getD i 0) : a = b :=
  List.ext_getElem hl fun i h1 h2 => by rw [← getD_at h1, ← getD_at h2]; exact h i h1
def cFE : Cods (List Nat × List Nat) := ⟨fun w l p => ∃ x y, l = [.agg #[x], EL y] ∧ cLS.rd w x p.1 ∧ cLS.rd w y p.2, fun w l ⟨a, b⟩ ⟨a', b'⟩ ⟨x, y, e, h, k⟩ ⟨x', y', e', h', k'⟩ => by
  dsimp only at e h k e' h' k'
  rw [e] at e'
  simp only [List.cons.injEq, Value.agg.injEq, and_true] at e'
  have e1 := congrArg Array.toList e'.1
  simp only [List.cons.injEq, and_true] at e1
  subst e1
  obtain rfl := EL_inj e'.2
  rw [cLS.inj _ _ _ _ h h', cLS.inj _ _ _ _ k k']⟩
def cFreeIs : Contract := fnW cFE (fun p _ => p.1.length ≤ mx ∧ p.2.length ≤ mx) (fun p _ v _ => v = .bool (decide (p.1 = p.2)))
def ann17 : Ann := ⟨[(4, ([5], []))], [], 70, [], [3], none, [], []⟩
def kb17_0 (b0 b1 : Nat) (x4 x5 : Value) : List KB := [⟨b0, true, 30, #[x4]⟩, ⟨b1, true, 40, (aggArr x5)⟩]
theorem vc17 (X : Ctx) (β : Nat → Nat) (x0 x1 : Value) : (run Tryz.prog ann17 17 [.x (.v 0), .x (.v 1)] [] [] 3).den X (env0 [x0, x1] X.w0) 3 β 0 (fun _ _ _ => False) = (
  Ask (rAgg 1 x0) fun x3 =>
  Ask (rSel (aggArr x3) 0 1 false) fun x4 =>
  AskNew X.w0 fun b0 =>
  Ask (rAgg 26 x1) fun x5 =>
  AskNew X.w0 fun b1 =>
  Ask (rLen X.P 22 x4) fun x6 =>
  Ask (rSel (aggArr x5) 25 1 false) fun x7 =>
  Ask (rLen X.P 38 x7) fun x8 =>
  Ask (rBin X.P .neq 3 false false x6 x8) fun x9 =>
  (∃ t, x9 = .bool t) ∧ (x9 = .bool true →
    Ret X X.w0 [] [] (.bool false)) ∧ (x9 = .bool false →
    ∃ (I0 : List Value → World → Prop) (μ0 : List Value → World → Nat), (∀ w, KnownV X X.w0 [] (kb17_0 b0 b1 x4 x5) w → I0 [(J 0)] w) ∧ ∀ x10 w11, I0 [x10] w11 →
      Ask (rLen X.P 22 x4) fun x12 =>
      Ask (rBin X.P .lss 3 false false x10 x12) fun x13 =>
      (∃ t, x13 = .bool t) ∧ (x13 = .bool true →
        Ask (rIad X.P 22 x4 x10) fun x14 =>
        Ask (rLoad X w11 [] 25 x14) fun x15 =>
        Ask (rSel (aggArr x5) 25 1 false) fun x16 =>
        Ask (rIad X.P 38 x16 x10) fun x17 =>
        Ask (rLoad X w11 [] 37 x17) fun x18 =>
        Ask (rBin X.P .neq 37 false false x15 x18) fun x19 =>
        (∃ t, x19 = .bool t) ∧ (x19 = .bool true →
          Ret X w11 [] [] (.bool false)) ∧ (x19 = .bool false →
          Ask (rBin X.P .add 3 false true x10 (J 1)) fun x20 =>
          Again X w11 [] [] fun w => I0 [x20] w ∧ μ0 [x20] w < μ0 [x10] w11)) ∧ (x13 = .bool false →
        Ret X w11 [] [] (.bool true)))) := by kernel_rfl
theorem keepsFreeIs : Keeps1 Tryz.prog GT 17 cFreeIs := by
  refine keepsW (T := T0) (A := ann17) hMix keepT0 hGT (calls_of (by kernel_rfl)) (callsW_of (by kernel_rfl)) fun args ⟨la, lb⟩ w0 hrd hpre hg => ?_
  obtain ⟨x, y, rfl, ha, hb⟩ := hrd
  dsimp only at ha hb hpre
  replace ha : Ls encS okS w0 x la := ha
  replace hb : Ls encS okS w0 y lb := hb
  simp only [mx] at hpre
  refine ⟨[.x (.v 0), .x (.v 1)], [], [], 3, env0 [.agg #[x], EL y] w0, fun b => b, 0, rfl, rfl, fun X hX => mem_none hX rfl, fun X hP hS hw hX hR => ?_⟩
  subst hw; try dsimp only at hR
  rw [vc17 X]
  refine a_agg (cs := [x]) rfl (by simp [slAt_one ha.1]) (a_sel1 rfl ?_)
  intro b0 hb0
  refine a_agg (cs := encEL y) rfl (one_encEL (slAt_one hb.1)) ?_
  intro b1 hb1
  refine a_len hP tyS' ha.1 ?_
  refine a_sel1 rfl (a_len hP tyR hb.1 ?_)
  rw [ask_neqN]
  refine a_ifN (fun hne => ?_) fun hle => ?_
  · exact hR _ _ _ _ fun w hw => by rw [decide_eq_false fun h => hne (congrArg List.length h)]
  refine ⟨fun a w => ∃ i, a = [J i] ∧ i ≤ la.length ∧ (∀ j, j < i → la.getD j 0 = lb.getD j 0) ∧ Kn X w, fun a _ => match a with | [i] => la.length - intNat i | _ => 0,
    fun w hw => ⟨0, rfl, Nat.zero_le _, fun j hj => absurd hj (Nat.not_lt_zero _), hw.kn⟩, ?_⟩
  rintro _ w9 ⟨i, he, hi, hq, k9⟩
  simp only [List.cons.injEq, and_true] at he
  subst he
  refine a_len hP tyS' ha.1 ?_
  rw [ask_lssN]
  refine a_ifD (fun hlt => ?_) fun hge => ?_
  · have ha9 := ha.1.stp0 (k9.stp0 hX)
    refine a_iadN hP tyS' ha9 hlt ?_
    refine a_load_agg (cs := encS la[i]) k9 ha9 (hP ▸ aggS) (by rw [hP]; exact szS) (fun _ _ => List.not_mem_nil) (by simp [encS]) (flat_at encS_len la i _ (List.getElem?_eq_getElem hlt)) ?_
    rw [agg_encS]
    refine a_sel1 rfl ?_
    have hlt2 : i < lb.length := hle ▸ hlt
    refine ld_R hP k9 (hb.1.stp0 (k9.stp0 hX)) rfl rfl hlt2 (fun _ _ => List.not_mem_nil) ?_
    rw [ask_neqS (hP ▸ a4R) (ha.2 _ (List.getElem_mem hlt)) (hb.2 _ (List.getElem_mem hlt2))]
    refine a_ifN (fun hne => ?_) fun heq => ?_
    · exact hR _ _ _ _ fun w hw => by rw [decide_eq_false fun h => hne (by simp [h])]
    · rw [ask_succ (by omega)]
      intro w18 hw18
      refine ⟨⟨i + 1, rfl, hlt, fun j hj => ?_, hw18.kn⟩, by simp [intNat]; omega⟩
      rcases Nat.lt_succ_iff_lt_or_eq.1 hj with h' | rfl
      · exact hq j h'
      · rw [getD_at hlt, getD_at hlt2]; exact heq
  · obtain rfl : i = la.length := by omega
    exact hR _ _ _ _ fun w hw => by rw [decide_eq_true (list_eq_of hle hq)]

def cESameF : Contract := fnW cEl2 (fun p _ => p.1.length ≤ mx ∧ p.2.length ≤ mx) (fun p _ v _ => v = .bool (decide (p.1 = p.2)))
def ann19 : Ann := ⟨[(11, ([5], []))], [55], 70, [], [2, 3], none, [], []⟩
def kb19_0 (b0 b1 : Nat) (x3 x4 : Value) : List KB := [⟨b0, true, 40, (aggArr x3)⟩, ⟨b1, true, 40, (aggArr x4)⟩]
theorem vc19 (X : Ctx) (β : Nat → Nat) (x0 x1 : Value) : (run Tryz.prog ann19 19 [.x (.v 0), .x (.v 1)] [] [] 3).den X (env0 [x0, x1] X.w0) 3 β 0 (fun _ _ _ => False) = (
  Ask (rAgg 26 x0) fun x3 =>
  AskNew X.w0 fun b0 =>
  Ask (rAgg 26 x1) fun x4 =>
  AskNew X.w0 fun b1 =>
  Ask (rSel (aggArr x3) 0 1 false) fun x5 =>
  Ask (rSel (aggArr x4) 0 1 false) fun x6 =>
  Ask (rBin X.P .neq 3 false false x5 x6) fun x7 =>
  (∃ t, x7 = .bool t) ∧ (x7 = .bool true →
    Ret X X.w0 [] [] (.bool false)) ∧ (x7 = .bool false →
    Ask (rSel (aggArr x3) 0 1 false) fun x8 =>
    Ask (rBin X.P .eql 3 false true x8 (J 1)) fun x9 =>
    (∃ t, x9 = .bool t) ∧ (x9 = .bool true →
      Ask (rSel (aggArr x3) 1 20 true) fun x10 =>
      Ask (rSel (aggArr x4) 1 20 true) fun x11 =>
      AskF X 55 [x10, x11] fun x12 =>
      Ret X X.w0 [] [] x12) ∧ (x9 = .bool false →
      Ask (rBin X.P .eql 3 false true x8 (J 2)) fun x10 =>
      (∃ t, x10 = .bool t) ∧ (x10 = .bool true →
        Ask (rSel (aggArr x3) 21 4 true) fun x11 =>
        Ask (rSel (aggArr x4) 21 4 true) fun x12 =>
        Ask (rBin X.P .eql 37 false false x11 x12) fun x13 =>
        Ret X X.w0 [] [] x13) ∧ (x10 = .bool false →
        Ask (rSel (aggArr x3) 25 1 false) fun x11 =>
        Ask (rLen X.P 38 x11) fun x12 =>
        Ask (rSel (aggArr x4) 25 1 false) fun x13 =>
        Ask (rLen X.P 38 x13) fun x14 =>
        Ask (rBin X.P .neq 3 false false x12 x14) fun x15 =>
        (∃ t, x15 = .bool t) ∧ (x15 = .bool true →
          Ret X X.w0 [] [] (.bool false)) ∧ (x15 = .bool false →
          ∃ (I0 : List Value → World → Prop) (μ0 : List Value → World → Nat), (∀ w, KnownV X X.w0 [] (kb19_0 b0 b1 x3 x4) w → I0 [(J 0)] w) ∧ ∀ x16 w17, I0 [x16] w17 →
            Ask (rSel (aggArr x3) 25 1 false) fun x18 =>
            Ask (rLen X.P 38 x18) fun x19 =>
            Ask (rBin X.P .lss 3 false false x16 x19) fun x20 =>
            (∃ t, x20 = .bool t) ∧ (x20 = .bool true →
              Ask (rSel (aggArr x3) 25 1 false) fun x21 =>
              Ask (rIad X.P 38 x21 x16) fun x22 =>
              Ask (rLoad X w17 [] 37 x22) fun x23 =>
              Ask (rSel (aggArr x4) 25 1 false) fun x24 =>
              Ask (rIad X.P 38 x24 x16) fun x25 =>
              Ask (rLoad X w17 [] 37 x25) fun x26 =>
              Ask (rBin X.P .neq 37 false false x23 x26) fun x27 =>
              (∃ t, x27 = .bool t) ∧ (x27 = .bool true →
                Ret X w17 [] [] (.bool false)) ∧ (x27 = .bool false →
                Ask (rBin X.P .add 3 false true x16 (J 1)) fun x28 =>
                Again X w17 [] [] fun w => I0 [x28] w ∧ μ0 [x28] w < μ0 [x16] w17)) ∧ (x20 = .bool false →
              Ret X w17 [] [] (.bool true))))))) := by kernel_rfl
theorem keepsESameF : Keeps1 Tryz.prog GT 19 cESameF := by
  refine keepsW (T := T0) (A := ann19) hMix keepT0 hGT (calls_of (by kernel_rfl)) (callsW_of (by kernel_rfl)) fun args ⟨la, lb⟩ w0 hrd hpre hg => ?_
  obtain ⟨x, y, rfl, ha, hb⟩ := hrd
  dsimp only at ha hb hpre
  replace ha : Ls encS okS w0 x la := ha
  replace hb : Ls encS okS w0 y lb := hb
  simp only [mx] at hpre
  refine ⟨[.x (.v 0), .x (.v 1)], [], [], 3, env0 [EL x, EL y] w0, fun b => b, 0, rfl, rfl, fun X hX => mem_none hX rfl, fun X hP hS hw hX hR => ?_⟩
  subst hw; try dsimp only at hR
  rw [vc19 X]
  refine a_agg (cs := encEL x) rfl (one_encEL (slAt_one ha.1)) ?_
  intro b0 hb0
  refine a_agg (cs := encEL y) rfl (one_encEL (slAt_one hb.1)) ?_
  intro b1 hb1
  refine a_sel1 rfl (a_sel1 rfl ?_)
  rw [ask_neqN]
  refine a_ifN (fun hne => absurd rfl hne) fun _ => ?_
  refine a_sel1 rfl ?_
  rw [ask_eqlN]
  refine a_ifD (fun h => by omega) fun _ => ?_
  rw [ask_eqlN]
  refine a_ifD (fun h => by omega) fun _ => ?_
  refine a_sel1 rfl (a_len hP tyR ha.1 ?_)
  refine a_sel1 rfl (a_len hP tyR hb.1 ?_)
  rw [ask_neqN]
  refine a_ifN (fun hne => ?_) fun hle => ?_
  · exact hR _ _ _ _ fun w hw => by rw [decide_eq_false fun h => hne (congrArg List.length h)]
  refine ⟨fun a w => ∃ i, a = [J i] ∧ i ≤ la.length ∧ (∀ j, j < i → la.getD j 0 = lb.getD j 0) ∧ Kn X w, fun a _ => match a with | [i] => la.length - intNat i | _ => 0,
    fun w hw => ⟨0, rfl, Nat.zero_le _, fun j hj => absurd hj (Nat.not_lt_zero _), hw.kn⟩, ?_⟩
  rintro _ w9 ⟨i, he, hi, hq, k9⟩
  simp only [List.cons.injEq, and_true] at he
  subst he
  refine a_sel1 rfl (a_len hP tyR ha.1 ?_)
  rw [ask_lssN]
  refine a_ifD (fun hlt => ?_) fun hge => ?_
  · refine a_sel1 rfl ?_
    refine ld_R hP k9 (ha.1.stp0 (k9.stp0 hX)) rfl rfl hlt (fun _ _ => List.not_mem_nil) ?_
    refine a_sel1 rfl ?_
    have hlt2 : i < lb.length := hle ▸ hlt
    refine ld_R hP k9 (hb.1.stp0 (k9.stp0 hX)) rfl rfl hlt2 (fun _ _ => List.not_mem_nil) ?_
    rw [ask_neqS (hP ▸ a4R) (ha.2 _ (List.getElem_mem hlt)) (hb.2 _ (List.getElem_mem hlt2))]
    refine a_ifN (fun hne => ?_) fun heq => ?_
    · exact hR _ _ _ _ fun w hw => by rw [decide_eq_false fun h => hne (by simp [h])]
    · rw [ask_succ (by omega)]
      intro w18 hw18
      refine ⟨⟨i + 1, rfl, hlt, fun j hj => ?_, hw18.kn⟩, by simp [intNat]; omega⟩
      rcases Nat.lt_succ_iff_lt_or_eq.1 hj with h' | rfl
      · exact hq j h'
      · rw [getD_at hlt, getD_at hlt2]; exact heq
  · obtain rfl : i = la.length := by omega
    exact hR _ _ _ _ fun w hw => by rw [decide_eq_true (list_eq_of hle hq)]
#print axioms keepsESameF
end Go.Vc
