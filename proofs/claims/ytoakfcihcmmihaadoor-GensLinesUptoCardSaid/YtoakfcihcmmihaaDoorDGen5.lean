/-
  GensParts: walked.
-/
import Derived.Test.YtoakfcihcmmihaaDoorDGen4
namespace Go.Vc
open Go Go.Proofs Go.RowKit

theorem ask_eqlN5 {P : Program} {K : Value → Prop} {t : TypeId} {cx cy : Bool} {a b : Nat} : Ask (rBin P .eql t cx cy (J a) (J b)) K = K (.bool (decide (a = b))) := by
  rw [ask_eql]; congr 2; rw [Bool.eq_iff_iff]; simp; omega

def ann22 : Ann := ⟨[(4, ([4, 5], [])), (9, ([6], []))], [25], 70, [], [], none, [], []⟩
def kb22_0 (b0 b1 : Nat) (x4 x5 x6 x7 x8 x9 x10 x11 x12 x13 x14 x15 x16 x17 x18 : Value) : List KB := [⟨b0, true, 29, #[x4, x5, x6, x7, x8, x9, x10, x11, x12, x13, x14, x15, x16, x17]⟩, ⟨b1, true, 44, (aggArr x18)⟩]
theorem vc22 (X : Ctx) (β : Nat → Nat) (x0 x1 : Value) : (run Tryd.prog ann22 22 [.x (.v 0), .x (.v 1)] [] [] 3).den X (env0 [x0, x1] X.w0) 3 β 0 (fun _ _ _ => False) = (
  Ask (rAgg 14 x0) fun x3 =>
  Ask (rSel (aggArr x3) 0 1 false) fun x4 =>
  Ask (rSel (aggArr x3) 1 1 false) fun x5 =>
  Ask (rSel (aggArr x3) 2 1 false) fun x6 =>
  Ask (rSel (aggArr x3) 3 1 false) fun x7 =>
  Ask (rSel (aggArr x3) 4 1 false) fun x8 =>
  Ask (rSel (aggArr x3) 5 1 false) fun x9 =>
  Ask (rSel (aggArr x3) 6 1 false) fun x10 =>
  Ask (rSel (aggArr x3) 7 1 false) fun x11 =>
  Ask (rSel (aggArr x3) 8 1 false) fun x12 =>
  Ask (rSel (aggArr x3) 9 1 false) fun x13 =>
  Ask (rSel (aggArr x3) 10 1 false) fun x14 =>
  Ask (rSel (aggArr x3) 11 1 false) fun x15 =>
  Ask (rSel (aggArr x3) 12 1 false) fun x16 =>
  Ask (rSel (aggArr x3) 13 1 false) fun x17 =>
  AskNew X.w0 fun b0 =>
  Ask (rAgg 81 x1) fun x18 =>
  AskNew X.w0 fun b1 =>
  Ask (rLen X.P 27 x16) fun x19 =>
  Ask (rSel (aggArr x18) 79 1 false) fun x20 =>
  Ask (rLen X.P 42 x20) fun x21 =>
  Ask (rBin X.P .neq 3 false false x19 x21) fun x22 =>
  AskG [(x22, false)] (rLen X.P 27 x17) fun x23 =>
  AskG [(x22, false)] (rSel (aggArr x18) 80 1 false) fun x24 =>
  AskG [(x22, false)] (rLen X.P 42 x24) fun x25 =>
  AskG [(x22, false)] (rBin X.P .neq 3 false false x23 x25) fun x26 =>
  Ask (rPick x22 (.bool true) x26) fun x27 =>
  AskG [(x27, false)] (rSel (aggArr x18) 1 26 true) fun x28 =>
  AskGF X [(x27, false)] 25 [(.agg #[x4, x5, x6, x7]), x28] fun x29 =>
  AskG [(x27, false)] (rUn X.P .not x29) fun x30 =>
  Ask (rPick x27 (.bool true) x30) fun x31 =>
  AskG [(x31, false)] (rSel (aggArr x18) 27 26 true) fun x32 =>
  AskGF X [(x31, false)] 25 [(.agg #[x8, x9, x10, x11]), x32] fun x33 =>
  AskG [(x31, false)] (rUn X.P .not x33) fun x34 =>
  Ask (rPick x31 (.bool true) x34) fun x35 =>
  AskG [(x35, false)] (rSel (aggArr x18) 53 26 true) fun x36 =>
  AskGF X [(x35, false)] 25 [(.agg #[x12, x13, x14, x15]), x36] fun x37 =>
  AskG [(x35, false)] (rUn X.P .not x37) fun x38 =>
  Ask (rPick x35 (.bool true) x38) fun x39 =>
  (∃ t, x39 = .bool t) ∧ (x39 = .bool true →
    Ret X X.w0 [] [] (.bool false)) ∧ (x39 = .bool false →
    ∃ (I0 : List Value → World → Prop) (μ0 : List Value → World → Nat), (∀ w, KnownV X X.w0 [] (kb22_0 b0 b1 x4 x5 x6 x7 x8 x9 x10 x11 x12 x13 x14 x15 x16 x17 x18) w → I0 [(.bool false), (J 0)] w) ∧ ∀ x40 x41 w42, I0 [x40, x41] w42 →
      Ask (rLen X.P 27 x16) fun x43 =>
      Ask (rBin X.P .lss 3 false false x41 x43) fun x44 =>
      (∃ t, x44 = .bool t) ∧ (x44 = .bool true →
        Ask (rIad X.P 27 x16 x41) fun x45 =>
        Ask (rLoad X w42 [] 26 x45) fun x46 =>
        Ask (rSel (aggArr x18) 79 1 false) fun x47 =>
        Ask (rIad X.P 42 x47 x41) fun x48 =>
        Ask (rLoad X w42 [] 39 x48) fun x49 =>
        AskF X 25 [x46, x49] fun x50 =>
        Ask (rUn X.P .not x50) fun x51 =>
        (∃ t, x51 = .bool t) ∧ (x51 = .bool true →
          Ret X w42 [] [] (.bool false)) ∧ (x51 = .bool false →
          Ask (rBin X.P .add 3 false true x41 (J 1)) fun x52 =>
          Again X w42 [] [] fun w => I0 [x40, x52] w ∧ μ0 [x40, x52] w < μ0 [x40, x41] w42)) ∧ (x44 = .bool false →
        ∃ (I0 : List Value → World → Prop) (μ0 : List Value → World → Nat), (∀ w, KnownV X w42 [] (kb22_0 b0 b1 x4 x5 x6 x7 x8 x9 x10 x11 x12 x13 x14 x15 x16 x17 x18) w → I0 [(J 0)] w) ∧ ∀ x45 w46, I0 [x45] w46 →
          Ask (rLen X.P 27 x17) fun x47 =>
          Ask (rBin X.P .lss 3 false false x45 x47) fun x48 =>
          (∃ t, x48 = .bool t) ∧ (x48 = .bool true →
            Ask (rIad X.P 27 x17 x45) fun x49 =>
            Ask (rLoad X w46 [] 26 x49) fun x50 =>
            Ask (rSel (aggArr x18) 80 1 false) fun x51 =>
            Ask (rIad X.P 42 x51 x45) fun x52 =>
            Ask (rLoad X w46 [] 39 x52) fun x53 =>
            AskF X 25 [x50, x53] fun x54 =>
            Ask (rUn X.P .not x54) fun x55 =>
            (∃ t, x55 = .bool t) ∧ (x55 = .bool true →
              Ret X w46 [] [] (.bool false)) ∧ (x55 = .bool false →
              Ask (rBin X.P .add 3 false true x45 (J 1)) fun x56 =>
              Again X w46 [] [] fun w => I0 [x56] w ∧ μ0 [x56] w < μ0 [x45] w46)) ∧ (x48 = .bool false →
            Ret X w46 [] [] (.bool true))))) := by kernel_rfl
def cSame : Contract := fnW (Cods.cons cSetL (Cods.cons cRSetL Cods.nil)) (fun p _ => p.1.2.2.2.1.length ≤ mx ∧ p.1.2.2.2.2.length ≤ mx ∧ p.2.1 = (p.1.1 % lN, p.1.2.1 % lN, p.1.2.2.1 % lN, lm p.1.2.2.2.1, lm p.1.2.2.2.2)) (fun _ _ v _ => v = .bool true)
def Tsm : Table := T0.add 25 cIsLine
theorem keepTsm : AllKeep Tryd.prog GT Tsm := keepT0.add keepsIsLine
theorem lm_get {l : List Nat} {k : Nat} (h : k < l.length) : (lm l)[k]? = some (l[k] % lN) := by
  unfold lm; rw [List.getElem?_map, List.getElem?_eq_getElem h]; rfl
theorem lm_len (l : List Nat) : (lm l).length = l.length := by unfold lm; rw [List.length_map]
theorem keepsSameL : Keeps1 Tryd.prog GT 22 cSame := by
  refine keepsW (T := Tsm) (A := ann22) hMix keepTsm hGT (fun f hf => by
      simp only [ann22, List.mem_cons, List.not_mem_nil, or_false] at hf
      subst hf; intros; kernel_rfl) (fun f hf => by cases hf) fun args ⟨⟨b, bl, q, G, H⟩, ⟨b', bl', q', G', H'⟩, _⟩ w0 hrd hpre _ => ?_
  obtain ⟨_, _, rfl, ⟨g, h, rfl, ob, obl, oq, hg, hh⟩, _, _, rfl, ⟨g', h', rfl, ob', obl', oq', hg', hh'⟩, rfl⟩ := hrd
  dsimp only at hpre ob obl oq hg hh ob' obl' oq' hg' hh'
  simp only [Prod.mk.injEq] at hpre
  obtain ⟨hG, hH, rfl, rfl, rfl, rfl, rfl⟩ := hpre
  refine ⟨[.x (.v 0), .x (.v 1)], [], [], 3, env0 [SetV b bl q g h, RSetV (b % lN) (bl % lN) (encE (q % lN)) g' h'] w0, fun b => b, 0, rfl, rfl, fun X hX => mem_none hX rfl, fun X hP hS hw hX hR => ?_⟩
  subst hw
  replace hg : Ls encS okS X.w0 g G := hg
  replace hh : Ls encS okS X.w0 h H := hh
  replace hg' : Ls encE okS X.w0 g' (lm G) := hg'
  replace hh' : Ls encE okS X.w0 h' (lm H) := hh'
  have og := hg.2; have oh := hh.2
  replace hg := hg.1; replace hh := hh.1; replace hg' := hg'.1; replace hh' := hh'.1
  rw [vc22 X]
  refine a_agg rfl (by simp [one_encS, slAt_one hg, slAt_one hh]) ?_
  iterate 14 refine a_sel1 rfl ?_
  intro b0 _
  rw [ask_aggR (slAt_one hg') (slAt_one hh')]
  intro b1 _
  have fold : ∀ n, Value.agg #[U (lb n 0), U (lb n 1), U (lb n 2), U (lb n 3)] = S n := fun _ => rfl
  refine a_len hP tyL hg ?_
  refine a_sel1 (v := g') rfl ?_
  refine a_len hP tyE hg' ?_
  rw [ask_neqN, lm_len, decide_eq_true rfl]
  refine a_G_on (by simp [condsV]) (a_len hP tyL hh ?_)
  refine a_G_on (by simp [condsV]) (a_sel1 (v := h') rfl ?_)
  refine a_G_on (by simp [condsV]) (a_len hP tyE hh' ?_)
  refine a_G_on (by simp [condsV]) ?_
  rw [ask_neqN, lm_len, decide_eq_true rfl, Bool.not_true, ask_pickF]
  have one : ∀ {n : Nat} (K : Value → Prop), okS n → K (.bool true) → AskF X 25 [S n, E (n % lN)] K := fun {n} K hn hK => by
    refine call_PE hS (T := Tsm) (f := 25) rfl (n, n % lN) ⟨hn, lm_lt n⟩ ?_
    dsimp only
    rw [decide_eq_true rfl]; exact hK
  refine a_G_on (by simp [condsV]) (a_selL (ds := encE (b % lN)) rfl (by simp [encE_len]) ?_)
  rw [fold]
  refine a_GF_on (by simp [condsV]) (one _ ob ?_)
  refine a_G_on (by simp [condsV]) ?_
  rw [ask_not, Bool.not_true, ask_pickF]
  refine a_G_on (by simp [condsV]) (a_selL (ds := encE (bl % lN)) rfl (by simp [encE_len]) ?_)
  rw [fold]
  refine a_GF_on (by simp [condsV]) (one _ obl ?_)
  refine a_G_on (by simp [condsV]) ?_
  rw [ask_not, Bool.not_true, ask_pickF]
  refine a_G_on (by simp [condsV]) (a_selL (ds := encE (q % lN)) rfl (by simp [encE_len]) ?_)
  rw [fold]
  refine a_GF_on (by simp [condsV]) (one _ oq ?_)
  refine a_G_on (by simp [condsV]) ?_
  rw [ask_not, Bool.not_true, ask_pickF]
  refine a_if (fun h => by cases h) fun _ => ?_
  refine ⟨fun a w => ∃ k : Nat, a = [.bool false, J k] ∧ k ≤ G.length ∧ Kn X w, fun a _ => match a with | [_, i] => G.length - intNat i | _ => 0, fun w hw => ⟨0, rfl, Nat.zero_le _, hw.kn⟩, ?_⟩
  rintro _ _ w ⟨k, he, hk, hkn⟩
  simp only [List.cons.injEq, and_true] at he
  obtain ⟨rfl, rfl⟩ := he
  refine a_len hP tyL hg ?_
  rw [ask_lssN]
  refine a_ifD (fun hlt => ?_) fun _ => ?_
  · have sw := hkn.stp0 hX
    refine a_iadN hP tyL (hg.stp0 sw) hlt ?_
    refine a_load_agg (cs := encS G[k]) hkn (hg.stp0 sw) (by rw [hP]; exact aggL) (by rw [hP]; exact szL) (fun _ _ => List.not_mem_nil) (by simp [encS]) (flat_at encS_len G k _ (List.getElem?_eq_getElem hlt)) ?_
    refine a_sel1 (v := g') rfl ?_
    refine a_iadN hP tyE (hg'.stp0 sw) (by rw [lm_len]; exact hlt) ?_
    refine a_load_agg (cs := encE (G[k] % lN)) hkn (hg'.stp0 sw) (by rw [hP]; exact aggE) (by rw [hP]; exact szE) (fun _ _ => List.not_mem_nil) (by simp [encE]) (flat_at encE_len (lm G) k _ (lm_get hlt)) ?_
    rw [agg_encS]
    refine one _ (og _ (List.getElem_mem _)) ?_
    rw [ask_not]
    refine a_if (fun h => by cases h) fun _ => ?_
    rw [ask_succ (by simp only [mx] at *; omega)]
    intro w2 hw2
    exact ⟨⟨k + 1, rfl, hlt, hw2.kn⟩, by simp [intNat]; omega⟩
  refine ⟨fun a w => ∃ k : Nat, a = [J k] ∧ k ≤ H.length ∧ Kn X w, fun a _ => match a with | [i] => H.length - intNat i | _ => 0, fun w hw => ⟨0, rfl, Nat.zero_le _, hw.kn⟩, ?_⟩
  rintro _ w ⟨k, he, hk, hkn⟩
  simp only [List.cons.injEq, and_true] at he
  obtain rfl := he
  refine a_len hP tyL hh ?_
  rw [ask_lssN]
  refine a_ifD (fun hlt => ?_) fun _ => hR _ _ _ _ fun _ _ => rfl
  have sw := hkn.stp0 hX
  refine a_iadN hP tyL (hh.stp0 sw) hlt ?_
  refine a_load_agg (cs := encS H[k]) hkn (hh.stp0 sw) (by rw [hP]; exact aggL) (by rw [hP]; exact szL) (fun _ _ => List.not_mem_nil) (by simp [encS]) (flat_at encS_len H k _ (List.getElem?_eq_getElem hlt)) ?_
  refine a_sel1 (v := h') rfl ?_
  refine a_iadN hP tyE (hh'.stp0 sw) (by rw [lm_len]; exact hlt) ?_
  refine a_load_agg (cs := encE (H[k] % lN)) hkn (hh'.stp0 sw) (by rw [hP]; exact aggE) (by rw [hP]; exact szE) (fun _ _ => List.not_mem_nil) (by simp [encE]) (flat_at encE_len (lm H) k _ (lm_get hlt)) ?_
  rw [agg_encS]
  refine one _ (oh _ (List.getElem_mem _)) ?_
  rw [ask_not]
  refine a_if (fun h => by cases h) fun _ => ?_
  rw [ask_succ (by simp only [mx] at *; omega)]
  intro w2 hw2
  exact ⟨⟨k + 1, rfl, hlt, hw2.kn⟩, by simp [intNat]; omega⟩

def ann26 : Ann := ⟨[(2, ([5], []))], [], 70, [], [], none, [], []⟩
theorem vc26 (X : Ctx) (β : Nat → Nat) (x0 x1 : Value) : (run Tryd.prog ann26 26 [.x (.v 0), .x (.v 1)] [] [] 3).den X (env0 [x0, x1] X.w0) 3 β 0 (fun _ _ _ => False) = (
  ∃ (I0 : List Value → World → Prop) (μ0 : List Value → World → Nat), (∀ w, KnownV X X.w0 [] [] w → I0 [(J 0)] w) ∧ ∀ x3 w4, I0 [x3] w4 →
    Ask (rLen X.P 59 x1) fun x5 =>
    Ask (rBin X.P .lss 3 false false x3 x5) fun x6 =>
    (∃ t, x6 = .bool t) ∧ (x6 = .bool true →
      Ask (rIad X.P 27 x0 x3) fun x7 =>
      Ask (rFad X.P 26 x7 0) fun x8 =>
      Ask (rLoad X w4 [] 24 x8) fun x9 =>
      Ask (rIad X.P 59 x1 x3) fun x10 =>
      Ask (rLoad X w4 [] 24 x10) fun x11 =>
      Ask (rBin X.P .neq 24 false false x9 x11) fun x12 =>
      (∃ t, x12 = .bool t) ∧ (x12 = .bool true →
        Ret X w4 [] [] (.bool false)) ∧ (x12 = .bool false →
        Ask (rBin X.P .add 3 false true x3 (J 1)) fun x13 =>
        Again X w4 [] [] fun w => I0 [x13] w ∧ μ0 [x13] w < μ0 [x3] w4)) ∧ (x6 = .bool false →
      Ask (rLen X.P 27 x0) fun x7 =>
      Ask (rLen X.P 59 x1) fun x8 =>
      Ask (rBin X.P .add 3 false true x8 (J 2)) fun x9 =>
      Ask (rBin X.P .eql 3 false false x7 x9) fun x10 =>
      AskG [(x10, true)] (rLen X.P 59 x1) fun x11 =>
      AskG [(x10, true)] (rIad X.P 27 x0 x11) fun x12 =>
      AskG [(x10, true)] (rFad X.P 26 x12 0) fun x13 =>
      AskG [(x10, true)] (rLoad X w4 [] 24 x13) fun x14 =>
      AskG [(x10, true)] (rBin X.P .eql 24 false false x14 (.agg #[(U 91), (U 0), (U 0), (U 0)])) fun x15 =>
      Ask (rPick x10 x15 (.bool false)) fun x16 =>
      AskG [(x16, true)] (rLen X.P 59 x1) fun x17 =>
      AskG [(x16, true)] (rBin X.P .add 3 false true x17 (J 1)) fun x18 =>
      AskG [(x16, true)] (rIad X.P 27 x0 x18) fun x19 =>
      AskG [(x16, true)] (rFad X.P 26 x19 0) fun x20 =>
      AskG [(x16, true)] (rLoad X w4 [] 24 x20) fun x21 =>
      AskG [(x16, true)] (rBin X.P .eql 24 false false x21 (.agg #[(U 92), (U 0), (U 0), (U 0)])) fun x22 =>
      Ask (rPick x16 x22 (.bool false)) fun x23 =>
      Ret X w4 [] [] x23)) := by kernel_rfl
def cStay : Contract := fnW (Cods.cons cLS (Cods.cons cLS Cods.nil)) (fun p _ => p.2.1.length ≤ mx ∧ p.1 = p.2.1 ++ [91, 92]) (fun _ _ v _ => v = .bool true)
theorem keepsStay : Keeps1 Tryd.prog GT 26 cStay := by
  refine keepsW (T := T0) (A := ann26) hMix keepT0 hGT (fun f hf => by cases hf) (fun f hf => by cases hf) fun args ⟨F, L, _⟩ w0 hrd hpre _ => ?_
  obtain ⟨f, _, rfl, hf, l, _, rfl, hl, rfl⟩ := hrd
  dsimp only at hpre hf hl
  obtain ⟨hL, rfl⟩ := hpre
  refine ⟨[.x (.v 0), .x (.v 1)], [], [], 3, env0 [f, l] w0, fun b => b, 0, rfl, rfl, fun X hX => mem_none hX rfl, fun X hP hS hw hX hR => ?_⟩
  subst hw
  replace hf : Ls encS okS X.w0 f (L ++ [91, 92]) := hf
  replace hl : Ls encS okS X.w0 l L := hl
  have ol := hl.2
  replace hf := hf.1; replace hl := hl.1
  have hlen : (L ++ [91, 92]).length = L.length + 2 := by simp
  rw [vc26 X]
  refine ⟨fun a w => ∃ k : Nat, a = [J k] ∧ k ≤ L.length ∧ Kn X w, fun a _ => match a with | [i] => L.length - intNat i | _ => 0, fun w hw => ⟨0, rfl, Nat.zero_le _, hw.kn⟩, ?_⟩
  rintro _ w ⟨k, he, hk, hkn⟩
  simp only [List.cons.injEq, and_true] at he
  obtain rfl := he
  have sw := hkn.stp0 hX
  have fw := hf.stp0 sw
  refine a_len hP tyS hl ?_
  rw [ask_lssN]
  refine a_ifD (fun hlt => ?_) fun _ => ?_
  · have hka : L[k]? = some L[k] := List.getElem?_eq_getElem hlt
    have hkf : (L ++ [91, 92])[k]? = some L[k] := by rw [List.getElem?_append_left hlt]; exact hka
    refine a_iadN hP tyL fw (by omega) ?_
    refine a_fad fw (by omega) hP fdLine ?_
    refine a_load_agg (cs := encS L[k]) hkn fw (by rw [hP]; exact aggS) (by rw [hP]; exact szS) (fun _ _ => List.not_mem_nil) (by simp [encS]) (flat_at encS_len _ k _ hkf) ?_
    refine a_iadN hP tyS (hl.stp0 sw) hlt ?_
    refine a_load_agg (cs := encS L[k]) hkn (hl.stp0 sw) (by rw [hP]; exact aggS) (by rw [hP]; exact szS) (fun _ _ => List.not_mem_nil) (by simp [encS]) (flat_at encS_len _ k _ hka) ?_
    rw [agg_encS, ask_neqS (hP ▸ a4S) (ol _ (List.getElem_mem _)) (ol _ (List.getElem_mem _)), decide_eq_true rfl]
    refine a_if (fun h => by cases h) fun _ => ?_
    rw [ask_succ (by simp only [mx] at *; omega)]
    intro w2 hw2
    exact ⟨⟨k + 1, rfl, hlt, hw2.kn⟩, by simp [intNat]; omega⟩
  · have c1 : Value.agg #[U 91, U 0, U 0, U 0] = S 91 := rfl
    have c2 : Value.agg #[U 92, U 0, U 0, U 0] = S 92 := rfl
    have k1 : (L ++ [91, 92])[L.length]? = some 91 := by simp
    have k2 : (L ++ [91, 92])[L.length + 1]? = some 92 := by simp
    refine a_len hP tyL hf ?_
    refine a_len hP tyS hl ?_
    rw [ask_addN (by simp only [mx] at *; omega), hlen, ask_eqlN5, decide_eq_true rfl]
    refine a_G_on (by simp [condsV]) (a_len hP tyS hl ?_)
    refine a_G_on (by simp [condsV]) (a_iadN hP tyL fw (by omega) ?_)
    refine a_G_on (by simp [condsV]) (a_fad fw (by omega) hP fdLine ?_)
    refine a_G_on (by simp [condsV]) (a_load_agg (cs := encS 91) hkn fw (by rw [hP]; exact aggS) (by rw [hP]; exact szS) (fun _ _ => List.not_mem_nil) (by simp [encS]) (flat_at encS_len _ _ _ k1) ?_)
    refine a_G_on (by simp [condsV]) ?_
    rw [agg_encS, c1, ask_eqlS (hP ▸ a4S) (ok91 91 (by simp)) (ok91 91 (by simp)), decide_eq_true rfl, ask_pickT]
    refine a_G_on (by simp [condsV]) (a_len hP tyS hl ?_)
    refine a_G_on (by simp [condsV]) ?_
    rw [ask_addN (by simp only [mx] at *; omega)]
    refine a_G_on (by simp [condsV]) (a_iadN hP tyL fw (by omega) ?_)
    refine a_G_on (by simp [condsV]) (a_fad fw (by omega) hP fdLine ?_)
    refine a_G_on (by simp [condsV]) (a_load_agg (cs := encS 92) hkn fw (by rw [hP]; exact aggS) (by rw [hP]; exact szS) (fun _ _ => List.not_mem_nil) (by simp [encS]) (flat_at encS_len _ _ _ k2) ?_)
    refine a_G_on (by simp [condsV]) ?_
    rw [agg_encS, c2, ask_eqlS (hP ▸ a4S) (ok91 92 (by simp)) (ok91 92 (by simp)), decide_eq_true rfl, ask_pickT]
    exact hR _ _ _ _ fun _ _ => rfl

def ann4 : Ann := ⟨[(12, ([17], []))], [25], 70, [(18, false), (19, false), (20, false), (21, false), (22, false), (23, false), (24, false), (26, false)], [], none, [], []⟩
def kb4_0 (b0 : Nat) (x5 x6 x7 x8 x9 x10 x11 x12 x13 x14 x15 x16 x17 x18 : Value) : List KB := [⟨b0, true, 61, #[x5, x6, x7, x8, x9, x10, x11, x12, x13, x14, x15, x16, x17, x18]⟩]
def kb4_1 (b0 b1 : Nat) (x5 x6 x7 x8 x9 x10 x11 x12 x13 x14 x15 x16 x17 x18 x24 x25 x26 x27 x28 x29 x30 x31 x32 x33 x34 x35 x36 x37 : Value) : List KB := [⟨b0, true, 61, #[x5, x6, x7, x8, x9, x10, x11, x12, x13, x14, x15, x16, x17, x18]⟩, ⟨b1, true, 29, #[x24, x25, x26, x27, x28, x29, x30, x31, x32, x33, x34, x35, x36, x37]⟩]
def kb4_2 (b0 b1 b2 : Nat) (x5 x6 x7 x8 x9 x10 x11 x12 x13 x14 x15 x16 x17 x18 x24 x25 x26 x27 x28 x29 x30 x31 x32 x33 x34 x35 x36 x37 x39 : Value) : List KB := [⟨b0, true, 61, #[x5, x6, x7, x8, x9, x10, x11, x12, x13, x14, x15, x16, x17, x18]⟩, ⟨b1, true, 29, #[x24, x25, x26, x27, x28, x29, x30, x31, x32, x33, x34, x35, x36, x37]⟩, ⟨b2, true, 44, (aggArr x39)⟩]
def kb4_3 (b0 b1 b2 b3 : Nat) (x5 x6 x7 x8 x9 x10 x11 x12 x13 x14 x15 x16 x17 x18 x24 x25 x26 x27 x28 x29 x30 x31 x32 x33 x34 x35 x36 x37 x39 x44 x45 x46 x47 x48 x49 x50 x51 x52 x53 x54 x55 x56 x57 : Value) : List KB := [⟨b0, true, 61, #[x5, x6, x7, x8, x9, x10, x11, x12, x13, x14, x15, x16, x17, x18]⟩, ⟨b1, true, 29, #[x24, x25, x26, x27, x28, x29, x30, x31, x32, x33, x34, x35, x36, x37]⟩, ⟨b2, true, 44, (aggArr x39)⟩, ⟨b3, true, 29, #[x44, x45, x46, x47, x48, x49, x50, x51, x52, x53, x54, x55, x56, x57]⟩]
def kb4_4 (b0 b1 b2 b3 b4 : Nat) (x5 x6 x7 x8 x9 x10 x11 x12 x13 x14 x15 x16 x17 x18 x24 x25 x26 x27 x28 x29 x30 x31 x32 x33 x34 x35 x36 x37 x39 x44 x45 x46 x47 x48 x49 x50 x51 x52 x53 x54 x55 x56 x57 x61 : Value) : List KB := [⟨b0, true, 61, #[x5, x6, x7, x8, x9, x10, x11, x12, x13, x14, x15, x16, x17, x18]⟩, ⟨b1, true, 29, #[x24, x25, x26, x27, x28, x29, x30, x31, x32, x33, x34, x35, x36, x37]⟩, ⟨b2, true, 44, (aggArr x39)⟩, ⟨b3, true, 29, #[x44, x45, x46, x47, x48, x49, x50, x51, x52, x53, x54, x55, x56, x57]⟩, ⟨b4, true, 44, (aggArr x61)⟩]
theorem vc4 (X : Ctx) (β : Nat → Nat) (x0 x1 x2 : Value) : (run Tryd.prog ann4 4 [.x (.v 0), .x (.v 1), .x (.v 2)] [] [] 4).den X (env0 [x0, x1, x2] X.w0) 4 β 0 (fun _ _ _ => False) = (
  Ask (rAgg 14 x0) fun x4 =>
  Ask (rSel (aggArr x4) 0 1 false) fun x5 =>
  Ask (rSel (aggArr x4) 1 1 false) fun x6 =>
  Ask (rSel (aggArr x4) 2 1 false) fun x7 =>
  Ask (rSel (aggArr x4) 3 1 false) fun x8 =>
  Ask (rSel (aggArr x4) 4 1 false) fun x9 =>
  Ask (rSel (aggArr x4) 5 1 false) fun x10 =>
  Ask (rSel (aggArr x4) 6 1 false) fun x11 =>
  Ask (rSel (aggArr x4) 7 1 false) fun x12 =>
  Ask (rSel (aggArr x4) 8 1 false) fun x13 =>
  Ask (rSel (aggArr x4) 9 1 false) fun x14 =>
  Ask (rSel (aggArr x4) 10 1 false) fun x15 =>
  Ask (rSel (aggArr x4) 11 1 false) fun x16 =>
  Ask (rSel (aggArr x4) 12 1 false) fun x17 =>
  Ask (rSel (aggArr x4) 13 1 false) fun x18 =>
  AskNew X.w0 fun b0 =>
  AskW X X.w0 [] (kb4_0 b0 x5 x6 x7 x8 x9 x10 x11 x12 x13 x14 x15 x16 x17 x18) false 18 [(.agg #[x5, x6, x7, x8, x9, x10, x11, x12, x13, x14, x15, x16, x17, x18])] fun x19 w19 =>
  Ask (rExt X.P x19 0) fun x20 =>
  Ask (rExt X.P x19 1) fun x21 =>
  Ask (rExt X.P x19 2) fun x22 =>
  AskNew w19 fun b1 =>
  Ask (rAgg 14 x20) fun x23 =>
  Ask (rSel (aggArr x23) 0 1 false) fun x24 =>
  Ask (rSel (aggArr x23) 1 1 false) fun x25 =>
  Ask (rSel (aggArr x23) 2 1 false) fun x26 =>
  Ask (rSel (aggArr x23) 3 1 false) fun x27 =>
  Ask (rSel (aggArr x23) 4 1 false) fun x28 =>
  Ask (rSel (aggArr x23) 5 1 false) fun x29 =>
  Ask (rSel (aggArr x23) 6 1 false) fun x30 =>
  Ask (rSel (aggArr x23) 7 1 false) fun x31 =>
  Ask (rSel (aggArr x23) 8 1 false) fun x32 =>
  Ask (rSel (aggArr x23) 9 1 false) fun x33 =>
  Ask (rSel (aggArr x23) 10 1 false) fun x34 =>
  Ask (rSel (aggArr x23) 11 1 false) fun x35 =>
  Ask (rSel (aggArr x23) 12 1 false) fun x36 =>
  Ask (rSel (aggArr x23) 13 1 false) fun x37 =>
  AskW X w19 [b1] (kb4_1 b0 b1 x5 x6 x7 x8 x9 x10 x11 x12 x13 x14 x15 x16 x17 x18 x24 x25 x26 x27 x28 x29 x30 x31 x32 x33 x34 x35 x36 x37) false 19 [(.agg #[x5, x6, x7, x8, x9, x10, x11, x12, x13, x14, x15, x16, x17, x18]), (J 2)] fun x38 w38 =>
  AskNew w38 fun b2 =>
  Ask (rAgg 81 x38) fun x39 =>
  AskW X w38 [b2] (kb4_2 b0 b1 b2 x5 x6 x7 x8 x9 x10 x11 x12 x13 x14 x15 x16 x17 x18 x24 x25 x26 x27 x28 x29 x30 x31 x32 x33 x34 x35 x36 x37 x39) false 20 [(.agg #[x24, x25, x26, x27, x28, x29, x30, x31, x32, x33, x34, x35, x36, x37]), x1, x2] fun x40 w40 =>
  Ask (rExt X.P x40 0) fun x41 =>
  Ask (rExt X.P x40 1) fun x42 =>
  AskNew w40 fun b3 =>
  Ask (rAgg 14 x41) fun x43 =>
  Ask (rSel (aggArr x43) 0 1 false) fun x44 =>
  Ask (rSel (aggArr x43) 1 1 false) fun x45 =>
  Ask (rSel (aggArr x43) 2 1 false) fun x46 =>
  Ask (rSel (aggArr x43) 3 1 false) fun x47 =>
  Ask (rSel (aggArr x43) 4 1 false) fun x48 =>
  Ask (rSel (aggArr x43) 5 1 false) fun x49 =>
  Ask (rSel (aggArr x43) 6 1 false) fun x50 =>
  Ask (rSel (aggArr x43) 7 1 false) fun x51 =>
  Ask (rSel (aggArr x43) 8 1 false) fun x52 =>
  Ask (rSel (aggArr x43) 9 1 false) fun x53 =>
  Ask (rSel (aggArr x43) 10 1 false) fun x54 =>
  Ask (rSel (aggArr x43) 11 1 false) fun x55 =>
  Ask (rSel (aggArr x43) 12 1 false) fun x56 =>
  Ask (rSel (aggArr x43) 13 1 false) fun x57 =>
  AskW X w40 [b3] (kb4_3 b0 b1 b2 b3 x5 x6 x7 x8 x9 x10 x11 x12 x13 x14 x15 x16 x17 x18 x24 x25 x26 x27 x28 x29 x30 x31 x32 x33 x34 x35 x36 x37 x39 x44 x45 x46 x47 x48 x49 x50 x51 x52 x53 x54 x55 x56 x57) false 21 [x39, x1, x2] fun x58 w58 =>
  Ask (rExt X.P x58 0) fun x59 =>
  Ask (rExt X.P x58 1) fun x60 =>
  AskNew w58 fun b4 =>
  Ask (rAgg 81 x59) fun x61 =>
  Ask (rBin X.P .neq 65 false false x42 x60) fun x62 =>
  AskG [(x62, false)] (rBin X.P .eql 3 false true x42 (J 0)) fun x63 =>
  AskGW X [(x62, false), (x63, true)] w58 [b4] (kb4_4 b0 b1 b2 b3 b4 x5 x6 x7 x8 x9 x10 x11 x12 x13 x14 x15 x16 x17 x18 x24 x25 x26 x27 x28 x29 x30 x31 x32 x33 x34 x35 x36 x37 x39 x44 x45 x46 x47 x48 x49 x50 x51 x52 x53 x54 x55 x56 x57 x61) false 22 [(.agg #[x44, x45, x46, x47, x48, x49, x50, x51, x52, x53, x54, x55, x56, x57]), x61] fun x64 w64 =>
  AskG [(x62, false), (x63, true)] (rUn X.P .not x64) fun x65 =>
  AskG [(x62, false)] (rPick x63 x65 (.bool false)) fun x66 =>
  Ask (rPick x62 (.bool true) x66) fun x67 =>
  AskG [(x67, false)] (rBin X.P .neq 3 false true x42 (J 0)) fun x68 =>
  AskG [(x67, false), (x68, true)] (rBin X.P .neq 24 false false (.agg #[x44, x45, x46, x47]) (.agg #[(U 0), (U 0), (U 0), (U 0)])) fun x69 =>
  AskG [(x67, false), (x68, true), (x69, false)] (rLen X.P 27 x56) fun x70 =>
  AskG [(x67, false), (x68, true), (x69, false)] (rLen X.P 27 x57) fun x71 =>
  AskG [(x67, false), (x68, true), (x69, false)] (rBin X.P .add 3 false false x70 x71) fun x72 =>
  AskG [(x67, false), (x68, true), (x69, false)] (rBin X.P .neq 3 false true x72 (J 0)) fun x73 =>
  AskG [(x67, false), (x68, true)] (rPick x69 (.bool true) x73) fun x74 =>
  AskG [(x67, false)] (rPick x68 x74 (.bool false)) fun x75 =>
  Ask (rPick x67 (.bool true) x75) fun x76 =>
  (∃ t, x76 = .bool t) ∧ (x76 = .bool true →
    Ret X w64 [b4] [] (.bool false)) ∧ (x76 = .bool false →
    AskW X w64 [b4] (kb4_4 b0 b1 b2 b3 b4 x5 x6 x7 x8 x9 x10 x11 x12 x13 x14 x15 x16 x17 x18 x24 x25 x26 x27 x28 x29 x30 x31 x32 x33 x34 x35 x36 x37 x39 x44 x45 x46 x47 x48 x49 x50 x51 x52 x53 x54 x55 x56 x57 x61) false 23 [(.agg #[x24, x25, x26, x27, x28, x29, x30, x31, x32, x33, x34, x35, x36, x37])] fun x77 w77 =>
    AskW X w77 [] (kb4_4 b0 b1 b2 b3 b4 x5 x6 x7 x8 x9 x10 x11 x12 x13 x14 x15 x16 x17 x18 x24 x25 x26 x27 x28 x29 x30 x31 x32 x33 x34 x35 x36 x37 x39 x44 x45 x46 x47 x48 x49 x50 x51 x52 x53 x54 x55 x56 x57 x61) false 24 [x39] fun x78 w78 =>
    Ask (rLen X.P 27 x77) fun x79 =>
    Ask (rLen X.P 42 x78) fun x80 =>
    Ask (rBin X.P .neq 3 false false x79 x80) fun x81 =>
    (∃ t, x81 = .bool t) ∧ (x81 = .bool true →
      Ret X w78 [] [] (.bool false)) ∧ (x81 = .bool false →
      ∃ (I0 : List Value → World → Prop) (μ0 : List Value → World → Nat), (∀ w, KnownV X w78 [] (kb4_4 b0 b1 b2 b3 b4 x5 x6 x7 x8 x9 x10 x11 x12 x13 x14 x15 x16 x17 x18 x24 x25 x26 x27 x28 x29 x30 x31 x32 x33 x34 x35 x36 x37 x39 x44 x45 x46 x47 x48 x49 x50 x51 x52 x53 x54 x55 x56 x57 x61) w → I0 [(J 0)] w) ∧ ∀ x82 w83, I0 [x82] w83 →
        Ask (rLen X.P 27 x77) fun x84 =>
        Ask (rBin X.P .lss 3 false false x82 x84) fun x85 =>
        (∃ t, x85 = .bool t) ∧ (x85 = .bool true →
          Ask (rIad X.P 27 x77 x82) fun x86 =>
          Ask (rLoad X w83 [] 26 x86) fun x87 =>
          Ask (rIad X.P 42 x78 x82) fun x88 =>
          Ask (rLoad X w83 [] 39 x88) fun x89 =>
          AskF X 25 [x87, x89] fun x90 =>
          Ask (rUn X.P .not x90) fun x91 =>
          (∃ t, x91 = .bool t) ∧ (x91 = .bool true →
            Ret X w83 [] [] (.bool false)) ∧ (x91 = .bool false →
            Ask (rBin X.P .add 3 false true x82 (J 1)) fun x92 =>
            Again X w83 [] [] fun w => I0 [x92] w ∧ μ0 [x92] w < μ0 [x82] w83)) ∧ (x85 = .bool false →
          AskW X w83 [] (kb4_4 b0 b1 b2 b3 b4 x5 x6 x7 x8 x9 x10 x11 x12 x13 x14 x15 x16 x17 x18 x24 x25 x26 x27 x28 x29 x30 x31 x32 x33 x34 x35 x36 x37 x39 x44 x45 x46 x47 x48 x49 x50 x51 x52 x53 x54 x55 x56 x57 x61) false 26 [x21, x17] fun x86 w86 =>
          AskGW X [(x86, true)] w86 [] (kb4_4 b0 b1 b2 b3 b4 x5 x6 x7 x8 x9 x10 x11 x12 x13 x14 x15 x16 x17 x18 x24 x25 x26 x27 x28 x29 x30 x31 x32 x33 x34 x35 x36 x37 x39 x44 x45 x46 x47 x48 x49 x50 x51 x52 x53 x54 x55 x56 x57 x61) false 26 [x22, x18] fun x87 w87 =>
          Ask (rPick x86 x87 (.bool false)) fun x88 =>
          Ret X w87 [] [] x88)))) := by kernel_rfl
def Tgp : Table := ((((((((T0.add 25 cIsLine).add 18 cLine).add 19 cRef).add 20 cPart).add 21 cRPart).add 22 cSame).add 23 cAll).add 24 cRAll).add 26 cStay
theorem keepTgp : AllKeep Tryd.prog GT Tgp := ((((((((keepT0.add keepsIsLine).add keepsLine).add keepsRef).add keepsPart).add keepsRPart).add keepsSameL).add keepsAll).add keepsRAll).add keepsStay
def cGensParts : Contract := fnW (Cods.cons cSetL (Cods.cons cI (Cods.cons cI Cods.nil))) (fun p _ => p.1.2.2.2.1.length ≤ 1048576 ∧ p.1.2.2.2.2.length ≤ 1048576) (fun _ _ v _ => v = .bool true)
theorem lm_part (l : List Nat) (a n : Nat) : lm ((l.drop a).take n) = ((lm l).drop a).take n := by unfold lm; rw [List.map_take, List.map_drop]
theorem cSetL_stable : cSetL.Stable := fun _ _ _ _ hs ⟨g, h, e, o1, o2, o3, hg, hh⟩ => ⟨g, h, e, o1, o2, o3, cLS_stable _ _ _ _ hs hg, cLS_stable _ _ _ _ hs hh⟩
theorem cRSetL_stable : cRSetL.Stable := fun _ _ _ _ hs ⟨g, h, e, o1, o2, o3, hg, hh⟩ => ⟨g, h, e, o1, o2, o3, cLE_stable _ _ _ _ hs hg, cLE_stable _ _ _ _ hs hh⟩

set_option maxHeartbeats 1000000 in
theorem keepsGensParts : Keeps1 Tryd.prog GT 4 cGensParts := by
  refine keepsW (T := Tgp) (A := ann4) hMix keepTgp hGT (fun f hf => by
      simp only [ann4, List.mem_cons, List.not_mem_nil, or_false] at hf
      subst hf; intros; kernel_rfl) (fun f hf => by
      simp only [ann4, List.mem_cons, List.not_mem_nil, or_false] at hf
      rcases hf with rfl | rfl | rfl | rfl | rfl | rfl | rfl | rfl <;> intros <;> kernel_rfl) fun args ⟨⟨b, bl, q, G, H⟩, a, n, _⟩ w0 hrd hpre _ => ?_
  obtain ⟨_, _, rfl, ⟨g, h, rfl, ob, obl, oq, hg, hh⟩, _, _, rfl, rfl, _, _, rfl, rfl, rfl⟩ := hrd
  dsimp only at hpre ob obl oq hg hh
  have hmx : G.length ≤ mx ∧ H.length ≤ mx := by simp only [mx]; omega
  refine ⟨[.x (.v 0), .x (.v 1), .x (.v 2)], [], [], 4, env0 [SetV b bl q g h, .int .i64 a, .int .i64 n] w0, fun b => b, 0, rfl, rfl, fun X hX => mem_none hX rfl, fun X hP hS hw hX hR => ?_⟩
  subst hw
  have rset : cSetL.rd X.w0 (SetV b bl q g h) (b, bl, q, G, H) := ⟨g, h, rfl, ob, obl, oq, hg, hh⟩
  rw [vc4 X]
  refine a_agg rfl (by simp [one_encS, slAt_one hg.1, slAt_one hh.1]) ?_
  iterate 14 refine a_sel1 rfl ?_
  intro b0 _
  refine call_W hX hS (T := Tgp) (f := 18) rfl ((b, bl, q, G, H), ()) (fun w hw => ⟨⟨_, _, rfl, cSetL_stable _ _ _ _ hw.stp rset, rfl⟩, hmx⟩) fun v1 w1 u1 h1 k1 _ s1 p1 => ?_
  dsimp only at p1
  obtain ⟨fg, fh, pg, ph, rfl, rpg, rph, rfg, rfh⟩ := p1
  refine Eq.mpr (ask_ext (v := SetV b bl q pg ph) rfl) ?_
  refine Eq.mpr (ask_ext (v := fg) rfl) ?_
  refine Eq.mpr (ask_ext (v := fh) rfl) ?_
  intro b1 hb1
  refine a_agg rfl (by simp [one_encS, slAt_one rpg.1, slAt_one rph.1]) ?_
  iterate 14 refine a_sel1 rfl ?_
  refine call_W hX hS (T := Tgp) (f := 19) rfl ((b, bl, q, G, H), ()) (fun w hw => ⟨⟨_, rfl, cSetL_stable _ _ _ _ (s1.trans0 (hw.stp.drop (all1 hb1))) rset⟩, hmx⟩) fun v2 w2 u2 h2 k2 _ s2 p2 => ?_
  dsimp only at p2
  have s2 := s2.drop (all1 hb1)
  obtain ⟨rg, rh, rfl, _, _, _, hrg, hrh⟩ := id p2
  dsimp only at hrg hrh
  intro b2 hb2
  rw [ask_aggR (slAt_one hrg.1) (slAt_one hrh.1)]
  have pset : cSetL.rd u1 (SetV b bl q pg ph) (b, bl, q, G, H) := ⟨pg, ph, rfl, ob, obl, oq, rpg, rph⟩
  refine call_W hX hS (T := Tgp) (f := 20) rfl ((b, bl, q, G, H), a, n, ()) (fun w hw => ⟨⟨_, _, rfl, cSetL_stable _ _ _ _ (s2.trans0 (hw.stp.drop (all1 hb2))) pset, _, _, rfl, rfl, _, _, rfl, rfl, rfl⟩, hmx⟩) fun v3 w3 u3 h3 k3 _ s3 p3 => ?_
  have s3 := s3.drop (all1 hb2)
  dsimp only at p3
  obtain ⟨cd, hcd⟩ : ∃ cd, partCode G.length H.length a n = cd := ⟨_, rfl⟩
  rw [hcd] at p3
  obtain ⟨b', bl', q', g', h', rfl, og', oh', r3, z3⟩ : ∃ b' bl' q' g' h', v3 = .tuple #[SetV b' bl' q' g' h', J cd] ∧ g'.oneCell' = true ∧ h'.oneCell' = true ∧ (cd = 0 → cSetL.rd u3 (SetV b' bl' q' g' h') (b, bl, q, (G.drop a.toNat).take n.toNat, (H.drop a.toNat).take n.toNat)) ∧ (cd ≠ 0 → b' = 0 ∧ g' = .slice none 0 0 ∧ h' = .slice none 0 0) := by
    by_cases hc : cd = 0
    · obtain ⟨x, rfl, hx⟩ := p3.2 hc
      obtain ⟨g', h', rfl, _, _, _, e1, e2⟩ := id hx
      exact ⟨_, _, _, g', h', by rw [hc], slAt_one e1.1, slAt_one e2.1, fun _ => hx, fun h => absurd hc h⟩
    · exact ⟨0, 0, 0, _, _, p3.1 hc, rfl, rfl, fun h => absurd h hc, fun _ => ⟨rfl, rfl, rfl⟩⟩
  refine Eq.mpr (ask_ext (v := SetV b' bl' q' g' h') rfl) ?_
  refine Eq.mpr (ask_ext (v := J cd) rfl) ?_
  intro b3 hb3
  refine a_agg rfl (by simp [one_encS, og', oh']) ?_
  iterate 14 refine a_sel1 rfl ?_
  refine call_W hX hS (T := Tgp) (f := 21) rfl ((b % lN, bl % lN, q % lN, lm G, lm H), a, n, ()) (fun w hw => ⟨⟨_, _, rfl, cRSetL_stable _ _ _ _ (s3.trans0 (hw.stp.drop (all1 hb3))) p2, _, _, rfl, rfl, _, _, rfl, rfl, rfl⟩, by simpa only [lm_len] using hmx⟩) fun v4 w4 u4 h4 k4 _ s4 p4 => ?_
  have s4 := s4.drop (all1 hb3)
  dsimp only at p4
  rw [lm_len, lm_len, hcd] at p4
  obtain ⟨cs, rfl, lcs, ocs, r4⟩ : ∃ cs : List Value, v4 = .tuple #[.agg cs.toArray, J cd] ∧ cs.length = 81 ∧ cs.all (·.oneCell') = true ∧ (cd = 0 → cRSetL.rd u4 (.agg cs.toArray) (b % lN, bl % lN, q % lN, lm ((G.drop a.toNat).take n.toNat), lm ((H.drop a.toNat).take n.toNat))) := by
    by_cases hc : cd = 0
    · obtain ⟨x, rfl, hx⟩ := p4.2 hc
      obtain ⟨g', h', rfl, _, _, _, e1, e2⟩ := id hx
      refine ⟨_, by rw [hc]; rfl, by simp [encE_len], by simp only [List.all_append, List.all_cons, List.all_nil, one_encE, slAt_one e1.1, slAt_one e2.1, oneJ2, Bool.and_true], fun _ => ?_⟩
      rw [lm_part, lm_part]; exact hx
    · obtain ⟨cs, h1, h2, rfl⟩ := p4.1 hc
      exact ⟨cs, rfl, h1, h2, fun h => absurd h hc⟩
  refine Eq.mpr (ask_ext (v := .agg cs.toArray) rfl) ?_
  refine Eq.mpr (ask_ext (v := J cd) rfl) ?_
  intro b4 hb4
  refine a_agg lcs ocs ?_
  rw [ask_neqN, decide_eq_true rfl, Bool.not_true]
  refine a_G_on (by simp [condsV]) ?_
  rw [ask_eqlN5]
  have cond0 : condsV [(.bool false, false), (.bool (decide (cd = 0)), true)] ↔ cd = 0 := by simp [condsV]
  have cond1 : condsV [(.bool false, false), (.bool (!decide (cd = 0)), true)] ↔ cd ≠ 0 := by simp [condsV]
  have lpart : ∀ (l : List Nat), l.length ≤ mx → ((l.drop a.toNat).take n.toNat).length ≤ mx := fun l hl => by rw [List.length_take, List.length_drop]; omega
  refine a_GW_cases (fun v w => Kn X w ∧ Stp [] u4 w ∧ (cd = 0 → v = .bool true)) (fun hc => ?_) (fun hc v => ⟨k4, Stp.refl _ _, fun h => absurd (cond0.2 h) hc⟩) fun v5 u5 ⟨k5, s5, p5⟩ => ?_
  · have hc := cond0.1 hc
    refine call_W hX hS (T := Tgp) (f := 22) rfl (_, _, ()) (fun w hw => ⟨⟨_, _, rfl, cSetL_stable _ _ _ _ (s4.trans0 (hw.stp.drop (all1 hb4))) (r3 hc), _, _, rfl, cRSetL_stable _ _ _ _ (hw.stp.drop (all1 hb4)) (r4 hc), rfl⟩, lpart _ hmx.1, lpart _ hmx.2, rfl⟩) fun v w w' _ k' _ s' p => ⟨k', s'.drop (all1 hb4), fun _ => p⟩
  refine a_G_cases (fun v => cd = 0 → v = .bool false) (fun hc => ?_) (fun hc v h => absurd (cond0.2 h) hc) fun v6 p6 => ?_
  · rw [p5 (cond0.1 hc), ask_not]; exact fun _ => rfl
  refine a_G_on (by simp [condsV]) (a_pickB (e := .bool false) (fun h => p6 (by simpa using h)) (fun _ => rfl) ?_)
  rw [ask_pickF]
  refine a_G_on (by simp [condsV]) ?_
  rw [ask_neqN]
  have foldb : Value.agg #[U (lb b' 0), U (lb b' 1), U (lb b' 2), U (lb b' 3)] = S b' := rfl
  have fold0 : Value.agg #[U 0, U 0, U 0, U 0] = S 0 := rfl
  refine a_G_cases (fun v => cd ≠ 0 → v = .bool false) (fun hc => ?_) (fun hc v h => absurd (cond1.2 h) hc) fun v7 p7 => ?_
  · rw [foldb, fold0, (z3 (cond1.1 hc)).1, ask_neqS (hP ▸ a4S) okS0 okS0, decide_eq_true rfl]; exact fun _ => rfl
  have cond2 : ¬ cd ≠ 0 → ¬ condsV [(.bool false, false), (.bool (!decide (cd = 0)), true), (v7, false)] := fun h hc => by
    have := hc (.bool (!decide (cd = 0)), true) (by simp)
    simp at this; exact h this
  have nn : ∀ w, SlAt w (.slice none 0 0) 0 [] := fun w => .inl ⟨rfl, rfl, rfl⟩
  refine a_G_cases (fun v => cd ≠ 0 → v = J 0) (fun hc => ?_) (fun hc v h => ?_) fun v8 p8 => ?_
  · by_cases h : cd ≠ 0
    · rw [(z3 h).2.1]; exact a_len hP tyL (nn X.w0) fun _ => rfl
    · exact absurd hc (cond2 h)
  · exact absurd (fun x hx => by
      simp only [List.mem_cons, List.not_mem_nil, or_false] at hx
      rcases hx with rfl | rfl | rfl
      · rfl
      · simp [h]
      · exact p7 h) hc
  have on3 : cd ≠ 0 → condsV [(.bool false, false), (.bool (!decide (cd = 0)), true), (v7, false)] := fun h x hx => by
      simp only [List.mem_cons, List.not_mem_nil, or_false] at hx
      rcases hx with rfl | rfl | rfl
      · rfl
      · simp [h]
      · exact p7 h
  refine a_G_cases (fun v => cd ≠ 0 → v = J 0) (fun hc => ?_) (fun hc v h => absurd (on3 h) hc) fun v9 p9 => ?_
  · by_cases h : cd ≠ 0
    · rw [(z3 h).2.2]; exact a_len hP tyL (nn X.w0) fun _ => rfl
    · exact absurd hc (cond2 h)
  refine a_G_cases (fun v => cd ≠ 0 → v = J 0) (fun hc => ?_) (fun hc v h => absurd (on3 h) hc) fun v10 p10 => ?_
  · by_cases h : cd ≠ 0
    · rw [p8 h, p9 h, ask_addN (by decide)]; exact fun _ => rfl
    · exact absurd hc (cond2 h)
  refine a_G_cases (fun v => cd ≠ 0 → v = .bool false) (fun hc => ?_) (fun hc v h => absurd (on3 h) hc) fun v11 p11 => ?_
  · by_cases h : cd ≠ 0
    · rw [p10 h, ask_neqN]; exact fun _ => rfl
    · exact absurd hc (cond2 h)
  refine a_G_cases (fun v => cd ≠ 0 → v = .bool false) (fun hc => ?_) (fun hc v h => absurd (cond1.2 h) hc) fun v12 p12 => ?_
  · rw [p7 (cond1.1 hc), ask_pickF]; exact fun h => p11 h
  refine a_G_on (by simp [condsV]) (a_pickB (e := .bool false) (fun h => p12 (by simpa using h)) (fun _ => rfl) ?_)
  rw [ask_pickF]
  refine a_if (fun h => by cases h) fun _ => ?_
  have s15 := s2.trans0 (s3.trans0 (s4.trans0 s5))
  have b4u : ∀ {w : World}, Stp [b4] u5 w → Stp [] u4 w := fun {w} h => ((s5.trans h).drop (by simpa using hb4))
  have s14 := s2.trans0 (s3.trans0 s4)
  refine call_W hX hS (T := Tgp) (f := 23) rfl ((b, bl, q, G, H), ()) (fun w hw => ⟨⟨_, _, rfl, cSetL_stable _ _ _ _ (s14.trans0 (b4u hw.stp)) pset, rfl⟩, hmx⟩) fun v13 w13 u6 h6 k6 _ s6 p13 => ?_
  dsimp only at p13
  have s6' := b4u s6
  refine call_W hX hS (T := Tgp) (f := 24) rfl ((b % lN, bl % lN, q % lN, lm G, lm H), ()) (fun w hw => ⟨⟨_, _, rfl, cRSetL_stable _ _ _ _ (s3.trans0 (s4.trans0 (s6'.trans0 hw.stp))) p2, rfl⟩, by simpa only [lm_len] using hmx⟩) fun v14 w14 u7 h7 k7 _ s7 p14 => ?_
  dsimp only at p14
  have s17 : Stp [] u1 u7 := s14.trans0 (s6'.trans0 s7)
  obtain ⟨L, hL⟩ : ∃ L, [b, bl, q] ++ G ++ H = L := ⟨_, rfl⟩
  have hL' : [b % lN, bl % lN, q % lN] ++ lm G ++ lm H = lm L := by rw [← hL]; simp [lm]
  have lL : L.length ≤ mx := by rw [← hL]; simp only [List.length_append, List.length_cons, List.length_nil, mx]; omega
  rw [hL] at p13
  rw [hL'] at p14
  replace p13 : Ls encS okS u7 v13 L := cLS_stable _ _ _ _ s7 p13
  replace p14 : Ls encE okS u7 v14 (lm L) := p14
  have oL := p13.2
  replace p13 := p13.1; replace p14 := p14.1
  refine a_len hP tyL p13 ?_
  refine a_len hP tyE p14 ?_
  rw [ask_neqN, lm_len, decide_eq_true rfl]
  refine a_if (fun h => by cases h) fun _ => ?_
  refine ⟨fun a w => ∃ k : Nat, a = [J k] ∧ k ≤ L.length ∧ Kn X w ∧ Stp [] u7 w, fun a _ => match a with | [i] => L.length - intNat i | _ => 0, fun w hw => ⟨0, rfl, Nat.zero_le _, hw.kn, hw.stp⟩, ?_⟩
  rintro _ w ⟨k, he, hk, hkn, sw⟩
  simp only [List.cons.injEq, and_true] at he
  obtain rfl := he
  refine a_len hP tyL p13 ?_
  rw [ask_lssN]
  refine a_ifD (fun hlt => ?_) fun _ => ?_
  · refine a_iadN hP tyL (p13.stp0 sw) hlt ?_
    refine a_load_agg (cs := encS L[k]) hkn (p13.stp0 sw) (by rw [hP]; exact aggL) (by rw [hP]; exact szL) (fun _ _ => List.not_mem_nil) (by simp [encS]) (flat_at encS_len L k _ (List.getElem?_eq_getElem hlt)) ?_
    refine a_iadN hP tyE (p14.stp0 sw) (by rw [lm_len]; exact hlt) ?_
    refine a_load_agg (cs := encE (L[k] % lN)) hkn (p14.stp0 sw) (by rw [hP]; exact aggE) (by rw [hP]; exact szE) (fun _ _ => List.not_mem_nil) (by simp [encE]) (flat_at encE_len (lm L) k _ (lm_get hlt)) ?_
    rw [agg_encS]
    refine call_PE hS (T := Tgp) (f := 25) rfl (L[k], L[k] % lN) ⟨oL _ (List.getElem_mem _), lm_lt _⟩ ?_
    dsimp only
    rw [decide_eq_true rfl, ask_not]
    refine a_if (fun h => by cases h) fun _ => ?_
    rw [ask_succ (by simp only [mx] at *; omega)]
    intro w2 hw2
    exact ⟨⟨k + 1, rfl, hlt, hw2.kn, sw.trans0 hw2.stp⟩, by simp [intNat]; omega⟩
  · have s1w := s17.trans0 sw
    refine call_W hX hS (T := Tgp) (f := 26) rfl (G ++ [91, 92], G, ()) (fun w hw => ⟨⟨_, _, rfl, cLS_stable _ _ _ _ (s1w.trans0 hw.stp) rfg, _, _, rfl, cLS_stable _ _ _ _ ((s1.trans0 s1w).trans0 hw.stp) hg, rfl⟩, hmx.1, rfl⟩) fun v15 _ u8 _ k8 _ s8 p15 => ?_
    subst p15
    refine a_GW_on (by simp [condsV]) ?_
    refine call_W hX hS (T := Tgp) (f := 26) rfl (H ++ [91, 92], H, ()) (fun w hw => ⟨⟨_, _, rfl, cLS_stable _ _ _ _ (s1w.trans0 (s8.trans0 hw.stp)) rfh, _, _, rfl, cLS_stable _ _ _ _ ((s1.trans0 s1w).trans0 (s8.trans0 hw.stp)) hh, rfl⟩, hmx.2, rfl⟩) fun v16 _ u9 _ k9 _ s9 p16 => ?_
    subst p16
    rw [ask_pickT]
    exact hR _ _ _ _ fun _ _ => rfl
#print axioms keepsGensParts
end Go.Vc
