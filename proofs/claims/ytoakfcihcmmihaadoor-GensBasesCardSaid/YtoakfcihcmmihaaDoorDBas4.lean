/-
  GensBases: the look at the elements, the law.
-/
import Derived.Test.YtoakfcihcmmihaaDoorDBas3
namespace Go.Vc
open Go Go.Proofs Go.RowKit

/-- An element over the lists, as an argument. -/
def cFr : Cod (List Nat) := ⟨fun w v l => ∃ x, v = .agg #[x] ∧ cLS.rd w x l, fun w v a b ⟨x, e, h⟩ ⟨x', e', h'⟩ => by
  rw [e] at e'
  simp only [Value.agg.injEq, Array.mk.injEq, List.cons.injEq, and_true] at e'
  subst e'
  exact cLS.inj _ _ _ _ h h'⟩
/-- The document's element: its list. -/
def cAnyE : Cod (List Nat) := ⟨fun w v l => ∃ cs x, v = .agg (cs ++ [x]).toArray ∧ cs.length = 25 ∧ cs.all (·.oneCell') = true ∧ cLS.rd w x l, fun w v a b ⟨cs, x, e, hl, _, h⟩ ⟨cs', x', e', hl', _, h'⟩ => by
  rw [e] at e'
  simp only [Value.agg.injEq] at e'
  have := (List.append_inj (congrArg Array.toList e') (hl.trans hl'.symm)).2
  simp only [List.cons.injEq, and_true] at this
  subst this
  exact cLS.inj _ _ _ _ h h'⟩

theorem EL_any {w : World} {x : Value} {l : List Nat} (h : cLS.rd w x l) : cAnyE.rd w (EL x) l := ⟨(encEL x).dropLast, x, rfl, rfl, rfl, h⟩
def ann29 : Ann := ⟨[(2, ([5], []))], [35], 70, [], [6, 7], none, []⟩
def kb29_0 (b0 b1 : Nat) (x4 x5 : Value) : List KB := [⟨b0, true, 77, #[x4]⟩, ⟨b1, true, 39, (aggArr x5)⟩]
theorem vc29 (X : Ctx) (β : Nat → Nat) (x0 x1 : Value) : (run Tryd.prog ann29 29 [.x (.v 0), .x (.v 1)] [] [] 3).den X (env0 [x0, x1] X.w0) 3 β 0 (fun _ _ _ => False) = (
  Ask (rAgg 1 x0) fun x3 =>
  Ask (rSel (aggArr x3) 0 1 false) fun x4 =>
  AskNew X.w0 fun b0 =>
  Ask (rAgg 26 x1) fun x5 =>
  AskNew X.w0 fun b1 =>
  ∃ (I0 : List Value → World → Prop) (μ0 : List Value → World → Nat), (∀ w, KnownV X X.w0 [] (kb29_0 b0 b1 x4 x5) w → I0 [(J 0)] w) ∧ ∀ x6 w7, I0 [x6] w7 →
    Ask (rLen X.P 59 x4) fun x8 =>
    Ask (rBin X.P .lss 3 false false x6 x8) fun x9 =>
    AskG [(x9, false)] (rSel (aggArr x5) 25 1 false) fun x10 =>
    AskG [(x9, false)] (rLen X.P 37 x10) fun x11 =>
    AskG [(x9, false)] (rBin X.P .lss 3 false false x6 x11) fun x12 =>
    Ask (rPick x9 (.bool true) x12) fun x13 =>
    (∃ t, x13 = .bool t) ∧ (x13 = .bool true →
      Ask (rAgg 4 (.agg #[(U 0), (U 0), (U 0), (U 0)])) fun _ =>
      AskNew w7 fun b2 =>
      Ask (rAgg 4 (.agg #[(U 0), (U 0), (U 0), (U 0)])) fun x15 =>
      Ask (rAgg 4 (.agg #[(U 0), (U 0), (U 0), (U 0)])) fun _ =>
      AskNew w7 fun b3 =>
      Ask (rAgg 4 (.agg #[(U 0), (U 0), (U 0), (U 0)])) fun x17 =>
      Ask (rLen X.P 59 x4) fun x18 =>
      Ask (rBin X.P .lss 3 false false x6 x18) fun x19 =>
      (∃ t, x19 = .bool t) ∧ (x19 = .bool true →
        Ask (rIad X.P 59 x4 x6) fun x20 =>
        Ask (rLoad X w7 [b3, b2] 24 x20) fun x21 =>
        AskF X 35 [x21] fun x22 =>
        Ask (rAgg 4 x22) fun x23 =>
        Ask (rSel (aggArr x5) 25 1 false) fun x24 =>
        Ask (rLen X.P 37 x24) fun x25 =>
        Ask (rBin X.P .lss 3 false false x6 x25) fun x26 =>
        (∃ t, x26 = .bool t) ∧ (x26 = .bool true →
          Ask (rSel (aggArr x5) 25 1 false) fun x27 =>
          Ask (rIad X.P 37 x27 x6) fun x28 =>
          Ask (rLoad X w7 [b2, b3, b2] 36 x28) fun x29 =>
          Ask (rAgg 4 x29) fun x30 =>
          Ask (rBin X.P .neq 36 false false x23 x30) fun x31 =>
          (∃ t, x31 = .bool t) ∧ (x31 = .bool true →
            Ret X w7 [b3, b2, b3, b2] [] (.bool false)) ∧ (x31 = .bool false →
            Ask (rBin X.P .add 3 false true x6 (J 1)) fun x32 =>
            Again X w7 [b3, b2, b3, b2] [] fun w => I0 [x32] w ∧ μ0 [x32] w < μ0 [x6] w7)) ∧ (x26 = .bool false →
          Ask (rBin X.P .neq 36 false false x23 x17) fun x27 =>
          (∃ t, x27 = .bool t) ∧ (x27 = .bool true →
            Ret X w7 [b2, b3, b2] [] (.bool false)) ∧ (x27 = .bool false →
            Ask (rBin X.P .add 3 false true x6 (J 1)) fun x28 =>
            Again X w7 [b2, b3, b2] [] fun w => I0 [x28] w ∧ μ0 [x28] w < μ0 [x6] w7))) ∧ (x19 = .bool false →
        Ask (rSel (aggArr x5) 25 1 false) fun x20 =>
        Ask (rLen X.P 37 x20) fun x21 =>
        Ask (rBin X.P .lss 3 false false x6 x21) fun x22 =>
        (∃ t, x22 = .bool t) ∧ (x22 = .bool true →
          Ask (rSel (aggArr x5) 25 1 false) fun x23 =>
          Ask (rIad X.P 37 x23 x6) fun x24 =>
          Ask (rLoad X w7 [b3, b2] 36 x24) fun x25 =>
          Ask (rAgg 4 x25) fun x26 =>
          Ask (rBin X.P .neq 36 false false x15 x26) fun x27 =>
          (∃ t, x27 = .bool t) ∧ (x27 = .bool true →
            Ret X w7 [b3, b3, b2] [] (.bool false)) ∧ (x27 = .bool false →
            Ask (rBin X.P .add 3 false true x6 (J 1)) fun x28 =>
            Again X w7 [b3, b3, b2] [] fun w => I0 [x28] w ∧ μ0 [x28] w < μ0 [x6] w7)) ∧ (x22 = .bool false →
          Ask (rBin X.P .neq 36 false false x15 x17) fun x23 =>
          (∃ t, x23 = .bool t) ∧ (x23 = .bool true →
            Ret X w7 [b3, b2] [] (.bool false)) ∧ (x23 = .bool false →
            Ask (rBin X.P .add 3 false true x6 (J 1)) fun x24 =>
            Again X w7 [b3, b2] [] fun w => I0 [x24] w ∧ μ0 [x24] w < μ0 [x6] w7)))) ∧ (x13 = .bool false →
      Ret X w7 [] [] (.bool true))) := by kernel_rfl
def cIsFree : Contract := fnW (Cods.cons cFr (Cods.cons cAnyE Cods.nil)) (fun p _ => p.1 = p.2.1 ∧ (∀ x ∈ p.1, x < lN) ∧ p.1.length ≤ mx) (fun _ _ v _ => v = .bool true)
theorem keepsIsFree : Keeps1 Tryd.prog GT 29 cIsFree := by
  refine keepsW (T := Til) (A := ann29) hMix keepTil hGT (calls_of (by kernel_rfl)) (callsW_of (by kernel_rfl)) fun args ⟨l, m, _⟩ w0 hrd hpre _ => ?_
  obtain ⟨_, _, rfl, ⟨a, rfl, ha⟩, _, _, rfl, ⟨cs, b, rfl, hcs, hone, hb⟩, rfl⟩ := hrd
  obtain ⟨e, hlt, hmx⟩ := hpre
  dsimp only at ha hb e hlt hmx
  subst e
  refine ⟨[.x (.v 0), .x (.v 1)], [], [], 3, env0 [.agg #[a], .agg (cs ++ [b]).toArray] w0, fun b => b, 0, rfl, rfl, fun X hX => mem_none hX rfl, fun X hP hS hw hX hR => ?_⟩
  subst hw; try dsimp only at hR
  rw [vc29 X]
  replace ha : Ls encS okS X.w0 a l := ha
  replace hb : Ls encS okS X.w0 b l := hb
  refine a_agg (cs := [a]) rfl (by simp [slAt_one ha.1]) (a_sel1 rfl ?_)
  intro b0 hb0
  refine a_agg (cs := cs ++ [b]) (by simp [hcs]) (by simp only [List.all_append, hone, List.all_cons, List.all_nil, slAt_one hb.1, Bool.and_true]) ?_
  intro b1 hb1
  have at25 : (cs ++ [b])[25]? = some b := by rw [List.getElem?_append_right (by omega)]; simp [hcs]
  refine ⟨fun v w => ∃ k, v = [J k] ∧ k ≤ l.length ∧ Kn X w, fun a _ => match a with | [i] => l.length - intNat i | _ => 0, fun w hw => ⟨0, rfl, Nat.zero_le _, hw.kn⟩, ?_⟩
  rintro _ w ⟨k, he, hk, hkn⟩
  simp only [List.cons.injEq, and_true] at he
  subst he
  have ha' := ha.1.stp0 (hkn.stp0 hX)
  have hb' := hb.1.stp0 (hkn.stp0 hX)
  refine a_len hP tyS ha.1 ?_
  rw [ask_lssN]
  by_cases hkl : k < l.length
  · rw [decide_eq_true hkl]
    iterate 3 refine a_G_off (condsV1_not (by decide)) fun _ => ?_
    rw [ask_pickT]
    refine a_if (fun _ => ?_) fun h => by cases h
    rw [ask_zero4]; intro b2 hb2
    rw [ask_zero4, ask_zero4]; intro b3 hb3
    rw [ask_zero4]
    refine a_len hP tyS ha.1 ?_
    rw [ask_lssN]
    refine a_ifD (fun _ => ?_) fun h => absurd hkl h
    have ok := ha.2 _ (List.getElem_mem hkl)
    refine ld_S hP hkn ha' rfl rfl hkl (slAt_off ha' (by rw [flat_len encS_len]; omega) (all2 hb3 hb2)) ?_
    refine call_PE hS (T := Til) (f := 35) rfl l[k] ok ?_
    rw [ask_aggS]
    refine a_sel1 at25 ?_
    refine a_len hP tyR hb.1 ?_
    rw [ask_lssN]
    refine a_ifD (fun _ => ?_) fun h => absurd hkl h
    refine a_sel1 at25 ?_
    refine ld_R hP hkn hb' rfl rfl hkl (slAt_off hb' (by rw [flat_len encS_len]; omega) (all3 hb2 hb3 hb2)) ?_
    rw [ask_aggS, ask_neqS (hP ▸ a4R) (lm_lt _) ok, Nat.mod_eq_of_lt (hlt _ (List.getElem_mem hkl)), decide_eq_true rfl]
    refine a_if (fun h => by cases h) fun _ => ?_
    rw [ask_succ (by simp only [mx] at *; omega)]
    intro w2 hw2
    exact ⟨⟨k + 1, rfl, hkl, hw2.kn⟩, by simp [intNat]; omega⟩
  · rw [decide_eq_false hkl]
    refine a_G_on condsV1 (a_sel1 at25 ?_)
    refine a_G_on condsV1 (a_len hP tyR hb.1 ?_)
    refine a_G_on condsV1 ?_
    rw [ask_lssN, decide_eq_false hkl, ask_pickF]
    refine a_if (fun h => by cases h) fun _ => ?_
    exact hR _ _ _ _ fun _ _ => rfl

def Tgb : Table := ((T0.add 27 cBasis).add 28 cRBasis).add 29 cIsFree
theorem keepTgb : AllKeep Tryd.prog GT Tgb := ((keepT0.add keepsBasis).add keepsRBasis).add keepsIsFree
theorem nil_rd (w : World) : cLS.rd w (.slice none 0 0) [] := ⟨.inl ⟨rfl, rfl, rfl⟩, fun x h => by cases h⟩
theorem aggFree : agg? Tryd.prog 77 = some true := by kernel_rfl
theorem szFree : sz Tryd.prog 77 = some 1 := by kernel_rfl
def ann5 : Ann := ⟨[(6, ([7], []))], [], 70, [(28, false), (27, false), (29, false)], [], none, []⟩
def kb5_0 (b0 : Nat) (x6 x7 x8 x9 x10 : Value) : List KB := [⟨b0, true, 80, #[x6, x7, x8, x9, x10]⟩]
def kb5_1 (b0 b1 : Nat) (x6 x7 x8 x9 x10 x14 : Value) : List KB := [⟨b0, true, 80, #[x6, x7, x8, x9, x10]⟩, ⟨b1, true, 44, (aggArr x14)⟩]
theorem vc5 (X : Ctx) (β : Nat → Nat) (x0 : Value) : (run Tryd.prog ann5 5 [.x (.v 0)] [] [] 2).den X (env0 [x0] X.w0) 2 β 0 (fun _ _ _ => False) = (
  AskW X X.w0 [] [] false 27 [x0] fun x2 w2 =>
  Ask (rExt X.P x2 0) fun x3 =>
  Ask (rExt X.P x2 1) fun x4 =>
  AskNew w2 fun b0 =>
  Ask (rAgg 5 x3) fun x5 =>
  Ask (rSel (aggArr x5) 0 1 false) fun x6 =>
  Ask (rSel (aggArr x5) 1 1 false) fun x7 =>
  Ask (rSel (aggArr x5) 2 1 false) fun x8 =>
  Ask (rSel (aggArr x5) 3 1 false) fun x9 =>
  Ask (rSel (aggArr x5) 4 1 false) fun x10 =>
  AskW X w2 [b0] (kb5_0 b0 x6 x7 x8 x9 x10) false 28 [x0] fun x11 w11 =>
  Ask (rExt X.P x11 0) fun x12 =>
  Ask (rExt X.P x11 1) fun x13 =>
  AskNew w11 fun b1 =>
  Ask (rAgg 81 x12) fun x14 =>
  Ask (rBin X.P .neq 65 false false x4 x13) fun x15 =>
  AskG [(x15, false)] (rLen X.P 78 x9) fun x16 =>
  AskG [(x15, false)] (rSel (aggArr x14) 79 1 false) fun x17 =>
  AskG [(x15, false)] (rLen X.P 42 x17) fun x18 =>
  AskG [(x15, false)] (rBin X.P .neq 3 false false x16 x18) fun x19 =>
  Ask (rPick x15 (.bool true) x19) fun x20 =>
  AskG [(x20, false)] (rLen X.P 78 x10) fun x21 =>
  AskG [(x20, false)] (rSel (aggArr x14) 80 1 false) fun x22 =>
  AskG [(x20, false)] (rLen X.P 42 x22) fun x23 =>
  AskG [(x20, false)] (rBin X.P .neq 3 false false x21 x23) fun x24 =>
  Ask (rPick x20 (.bool true) x24) fun x25 =>
  AskG [(x25, false)] (rSel (aggArr x14) 1 26 true) fun x26 =>
  AskGW X [(x25, false)] w11 [b1] (kb5_1 b0 b1 x6 x7 x8 x9 x10 x14) false 29 [(.agg #[x6]), x26] fun x27 w27 =>
  AskG [(x25, false)] (rUn X.P .not x27) fun x28 =>
  Ask (rPick x25 (.bool true) x28) fun x29 =>
  AskG [(x29, false)] (rSel (aggArr x14) 27 26 true) fun x30 =>
  AskGW X [(x29, false)] w27 [b1] (kb5_1 b0 b1 x6 x7 x8 x9 x10 x14) false 29 [(.agg #[x7]), x30] fun x31 w31 =>
  AskG [(x29, false)] (rUn X.P .not x31) fun x32 =>
  Ask (rPick x29 (.bool true) x32) fun x33 =>
  AskG [(x33, false)] (rSel (aggArr x14) 53 26 true) fun x34 =>
  AskGW X [(x33, false)] w31 [b1] (kb5_1 b0 b1 x6 x7 x8 x9 x10 x14) false 29 [(.agg #[x8]), x34] fun x35 w35 =>
  AskG [(x33, false)] (rUn X.P .not x35) fun x36 =>
  Ask (rPick x33 (.bool true) x36) fun x37 =>
  (∃ t, x37 = .bool t) ∧ (x37 = .bool true →
    Ret X w35 [b1] [] (.bool false)) ∧ (x37 = .bool false →
    ∃ (I0 : List Value → World → Prop) (μ0 : List Value → World → Nat), (∀ w, KnownV X w35 [b1] (kb5_1 b0 b1 x6 x7 x8 x9 x10 x14) w → I0 [(J 0)] w) ∧ ∀ x38 w39, I0 [x38] w39 →
      Ask (rLen X.P 78 x9) fun x40 =>
      Ask (rBin X.P .lss 3 false false x38 x40) fun x41 =>
      (∃ t, x41 = .bool t) ∧ (x41 = .bool true →
        Ask (rIad X.P 78 x9 x38) fun x42 =>
        Ask (rLoad X w39 [] 77 x42) fun x43 =>
        Ask (rSel (aggArr x14) 79 1 false) fun x44 =>
        Ask (rIad X.P 42 x44 x38) fun x45 =>
        Ask (rLoad X w39 [] 39 x45) fun x46 =>
        AskW X w39 [] (kb5_1 b0 b1 x6 x7 x8 x9 x10 x14) false 29 [x43, x46] fun x47 w47 =>
        Ask (rUn X.P .not x47) fun x48 =>
        AskG [(x48, false)] (rIad X.P 78 x10 x38) fun x49 =>
        AskG [(x48, false)] (rLoad X w47 [] 77 x49) fun x50 =>
        AskG [(x48, false)] (rSel (aggArr x14) 80 1 false) fun x51 =>
        AskG [(x48, false)] (rIad X.P 42 x51 x38) fun x52 =>
        AskG [(x48, false)] (rLoad X w47 [] 39 x52) fun x53 =>
        AskGW X [(x48, false)] w47 [] (kb5_1 b0 b1 x6 x7 x8 x9 x10 x14) false 29 [x50, x53] fun x54 w54 =>
        AskG [(x48, false)] (rUn X.P .not x54) fun x55 =>
        Ask (rPick x48 (.bool true) x55) fun x56 =>
        (∃ t, x56 = .bool t) ∧ (x56 = .bool true →
          Ret X w54 [] [] (.bool false)) ∧ (x56 = .bool false →
          Ask (rBin X.P .add 3 false true x38 (J 1)) fun x57 =>
          Again X w54 [] [] fun w => I0 [x57] w ∧ μ0 [x57] w < μ0 [x38] w39)) ∧ (x41 = .bool false →
        Ret X w39 [] [] (.bool true)))) := by kernel_rfl
def cGensBases : Contract := fnW (Cods.cons cI Cods.nil) (fun _ _ => True) (fun _ _ v _ => v = .bool true)
theorem keepsGensBases : Keeps1 Tryd.prog GT 5 cGensBases := by
  refine keepsW (T := Tgb) (A := ann5) hMix keepTgb hGT (calls_of (by kernel_rfl)) (callsW_of (by kernel_rfl)) fun args ⟨i, _⟩ w0 hrd hpre _ => ?_
  obtain ⟨_, _, rfl, rfl, rfl⟩ := hrd
  refine ⟨[.x (.v 0)], [], [], 2, env0 [.int .i64 i] w0, fun b => b, 0, rfl, rfl, fun X hX => mem_none hX rfl, fun X hP hS hw hX hR => ?_⟩
  subst hw; try dsimp only at hR
  rw [vc5 X]
  have look : ∀ (x y : Value) (l : List Nat) (u : World) (ow : List Nat) (bl : List KB) (KW : Value → World → Prop), (∀ a ∈ l, a < lN) → l.length ≤ mx → (∀ w, KnownV X u ow bl w → cFr.rd w x l ∧ cAnyE.rd w y l) →
      (∀ w w', KnownV X u ow bl w → Kn X w' → Stp [] w w' → Stp ow u w' → KW (.bool true) w') → AskW X u ow bl false 29 [x, y] KW := fun x y l u ow bl KW h1 h2 h3 hK => by
    refine call_W hX hS (T := Tgb) (f := 29) rfl (l, l, ()) (fun w hw => ⟨⟨_, _, rfl, (h3 w hw).1, _, _, rfl, (h3 w hw).2, rfl⟩, rfl, h1, h2⟩) fun v w w' hw hk hs hsu hp => ?_
    subst hp
    exact hK w w' hw hk hs hsu
  refine call_W hX hS (T := Tgb) (f := 27) rfl (i, ()) (fun w hw => ⟨⟨_, _, rfl, rfl, rfl⟩, trivial⟩) fun v1 u1 w1 h1 k1 s1 _ p1 => ?_
  dsimp only at p1
  have on : condsV [(Value.bool (!true), false)] := by simp [condsV]
  have on2 : condsV [(Value.bool false, false)] := by simp [condsV]
  by_cases hi : i < 0 ∨ 64 < i
  · obtain rfl := p1.1 hi
    rw [ask_ext0, ask_ext1]
    intro b0 hb0
    refine a_agg (cs := [.slice none 0 0, .slice none 0 0, .slice none 0 0, .slice none 0 0, .slice none 0 0]) rfl rfl ?_
    iterate 5 refine a_sel1 rfl ?_
    refine call_W hX hS (T := Tgb) (f := 28) rfl (i, ()) (fun w hw => ⟨⟨_, _, rfl, rfl, rfl⟩, trivial⟩) fun v2 u2 w2 h2 k2 s2 _ p2 => ?_
    dsimp only at p2
    obtain rfl := p2.1 hi
    rw [ask_ext0, ask_ext1]
    intro b1 hb1
    refine a_agg (cs := [J 0] ++ zE ++ zE ++ zE ++ [Value.slice none 0 0, Value.slice none 0 0]) rfl (by simp [zE, U, Value.oneCell']) ?_
    rw [ask_neqN, decide_eq_true rfl]
    refine a_G_on on (a_lenV hP tyFree ?_)
    refine a_G_on on (a_sel1 rfl ?_)
    refine a_G_on on (a_lenV hP tyE ?_)
    refine a_G_on on ?_
    rw [ask_neqN, decide_eq_true rfl, show (!true) = false from rfl, ask_pickF]
    refine a_G_on on2 (a_lenV hP tyFree ?_)
    refine a_G_on on2 (a_sel1 rfl ?_)
    refine a_G_on on2 (a_lenV hP tyE ?_)
    refine a_G_on on2 ?_
    rw [ask_neqN, decide_eq_true rfl, show (!true) = false from rfl, ask_pickF]
    have zz : ∀ w, cFr.rd w (.agg #[.slice none 0 0]) [] ∧ cAnyE.rd w (.agg zE.toArray) [] := fun w => ⟨⟨_, rfl, nil_rd w⟩, zE.dropLast, .slice none 0 0, rfl, rfl, by simp [zE, U, Value.oneCell'], nil_rd w⟩
    refine a_G_on on2 (a_selL (ds := zE) rfl (by decide) ?_)
    refine a_GW_on on2 (look _ _ [] _ _ _ _ (fun a h => by cases h) (Nat.zero_le _) (fun w _ => zz w) fun _ w3 _ _ _ _ => ?_)
    refine a_G_on on2 ?_
    rw [ask_not, show (!true) = false from rfl, ask_pickF]
    refine a_G_on on2 (a_selL (ds := zE) rfl (by decide) ?_)
    refine a_GW_on on2 (look _ _ [] _ _ _ _ (fun a h => by cases h) (Nat.zero_le _) (fun w _ => zz w) fun _ w4 _ _ _ _ => ?_)
    refine a_G_on on2 ?_
    rw [ask_not, show (!true) = false from rfl, ask_pickF]
    refine a_G_on on2 (a_selL (ds := zE) rfl (by decide) ?_)
    refine a_GW_on on2 (look _ _ [] _ _ _ _ (fun a h => by cases h) (Nat.zero_le _) (fun w _ => zz w) fun _ w5 _ _ _ _ => ?_)
    refine a_G_on on2 ?_
    rw [ask_not, show (!true) = false from rfl, ask_pickF]
    refine a_if (fun h => by cases h) fun _ => ?_
    refine ⟨fun v w => v = [J 0], fun _ _ => 0, fun w hw => rfl, ?_⟩
    rintro _ w he
    simp only [List.cons.injEq, and_true] at he
    subst he
    refine a_lenV hP tyFree ?_
    rw [ask_lssN]
    refine a_ifD (fun h => by omega) fun _ => ?_
    exact hR _ _ _ _ fun _ _ => rfl
  obtain ⟨n, rfl⟩ : ∃ k : Nat, i = k := ⟨i.toNat, by omega⟩
  have hn : n ≤ 64 := by omega
  obtain ⟨x, y, z, g, h, vs, us, rfl, hg, hh, hf⟩ := p1.2 n rfl hn
  rw [ask_ext0, ask_ext1]
  intro b0 hb0
  refine a_agg (cs := [x, y, z, g, h]) rfl (by simp [own_one hf.1, own_one hf.2.1, own_one hf.2.2.1, slAt_one hg, slAt_one hh]) ?_
  iterate 5 refine a_sel1 rfl ?_
  refine call_W hX hS (T := Tgb) (f := 28) rfl ((n : Int), ()) (fun w hw => ⟨⟨_, _, rfl, rfl, rfl⟩, trivial⟩) fun v2 u2 w2 h2 k2 s2 su2 p2 => ?_
  dsimp only at p2
  obtain ⟨x', y', z', g', h', vs', us', rfl, hg', hh', hf'⟩ := p2.2 n rfl hn
  rw [ask_ext0, ask_ext1]
  intro b1 hb1
  rw [ask_aggRF (own_one hf'.1) (own_one hf'.2.1) (own_one hf'.2.2.1) (slAt_one hg') (slAt_one hh')]
  have n0 : Stp [] w1 w2 := su2.drop (all1 hb0)
  have lowb : ∀ b ∈ [b1], w2.heap.size ≤ b := all1 hb1
  have nxt : ∀ {u w}, Stp [] w2 u → Stp [b1] u w → Stp [] w2 w := fun h k => Stp.drop (by simpa using h.trans k) lowb
  have rp : ∀ {v : Value} {k : Nat} {lo : Nat} {w}, Uw 24 lo w1 v k → Stp [] w2 w → cFr.rd w (.agg #[v]) (unitL k) := fun h k => ⟨_, rfl, ((h.stp n0 (fun _ h => by cases h)).stp k (fun _ h => by cases h)).rd⟩
  have rd : ∀ {v : Value} {k : Nat} {lo : Nat} {w}, Uw 36 lo w2 v k → Stp [] w2 w → cAnyE.rd w (EL v) (unitL k) := fun h k => EL_any ((h.stp k (fun _ h => by cases h)).rd)
  have ul : ∀ {k : Nat}, k ≤ 300 → (unitL k).length ≤ mx := fun h => by rw [unit_len]; simp only [mx]; omega
  obtain ⟨fx, fy, fz, lv, lu, fv, fu, _, _⟩ := hf
  obtain ⟨fx', fy', fz', lv', lu', fv', fu', _, _⟩ := hf'
  rw [ask_neqN, decide_eq_true rfl]
  refine a_G_on on (a_len hP tyFree hg ?_)
  refine a_G_on on (a_sel1 rfl ?_)
  refine a_G_on on (a_len hP tyE hg' ?_)
  refine a_G_on on ?_
  rw [ask_neqN, decide_eq_true rfl, show (!true) = false from rfl, ask_pickF]
  refine a_G_on on2 (a_len hP tyFree hh ?_)
  refine a_G_on on2 (a_sel1 rfl ?_)
  refine a_G_on on2 (a_len hP tyE hh' ?_)
  refine a_G_on on2 ?_
  rw [ask_neqN, decide_eq_true rfl, show (!true) = false from rfl, ask_pickF]
  refine a_G_on on2 (a_selL (ds := encEL x') rfl (by simp [encEL_len]) ?_)
  refine a_GW_on on2 (look _ _ (unitL 0) _ _ _ _ (unit_lt 0) (ul (by omega)) (fun w hw => ⟨rp fx (nxt (Stp.refl _ _) hw.stp), rd fx' (nxt (Stp.refl _ _) hw.stp)⟩) fun _ w3 _ k3 _ su3 => ?_)
  have S3 := nxt (Stp.refl _ _) su3
  refine a_G_on on2 ?_
  rw [ask_not, show (!true) = false from rfl, ask_pickF]
  refine a_G_on on2 (a_selL (ds := encEL y') rfl (by simp [encEL_len]) ?_)
  refine a_GW_on on2 (look _ _ (unitL 1) _ _ _ _ (unit_lt 1) (ul (by omega)) (fun w hw => ⟨rp fy (nxt S3 hw.stp), rd fy' (nxt S3 hw.stp)⟩) fun _ w4 _ k4 _ su4 => ?_)
  have S4 := nxt S3 su4
  refine a_G_on on2 ?_
  rw [ask_not, show (!true) = false from rfl, ask_pickF]
  refine a_G_on on2 (a_selL (ds := encEL z') rfl (by simp [encEL_len]) ?_)
  refine a_GW_on on2 (look _ _ (unitL 2) _ _ _ _ (unit_lt 2) (ul (by omega)) (fun w hw => ⟨rp fz (nxt S4 hw.stp), rd fz' (nxt S4 hw.stp)⟩) fun _ w5 _ k5 _ su5 => ?_)
  have S5 := nxt S4 su5
  refine a_G_on on2 ?_
  rw [ask_not, show (!true) = false from rfl, ask_pickF]
  refine a_if (fun h => by cases h) fun _ => ?_
  refine ⟨fun v w => ∃ k, v = [J k] ∧ k ≤ n ∧ Stp [] w2 w ∧ Kn X w, fun a _ => match a with | [i] => n - intNat i | _ => 0, fun w hw => ⟨0, rfl, Nat.zero_le _, nxt S5 hw.stp, hw.kn⟩, ?_⟩
  rintro _ w ⟨k, he, hk, S, hkn⟩
  simp only [List.cons.injEq, and_true] at he
  subst he
  refine a_len hP tyFree hg ?_
  rw [ask_lssN]
  refine a_ifD (fun hlt => ?_) fun _ => hR _ _ _ _ fun _ _ => rfl
  have hv : vs[k]? = some vs[k] := List.getElem?_eq_getElem (by omega)
  have hu : us[k]? = some us[k] := List.getElem?_eq_getElem (by omega)
  have hv' : vs'[k]? = some vs'[k] := List.getElem?_eq_getElem (by omega)
  have hu' : us'[k]? = some us'[k] := List.getElem?_eq_getElem (by omega)
  have cell1 : ∀ {l : List Value} {x : Value}, l[k]? = some x → ∀ (j : Nat) (c : Value), [x][j]? = some c → l[k * 1 + j]? = some c := fun hx j c hj => by
    match j, hj with
    | 0, hj => simp at hj; subst hj; rw [Nat.mul_one, Nat.add_zero]; exact hx
    | j + 1, hj => simp at hj
  have off : ∀ {v : Value} (b : Nat), v.ownBlock = some b → b ∉ ([] : List Nat) := fun _ _ => List.not_mem_nil
  have sg := (hg.stp0 n0).stp0 S; have sh := (hh.stp0 n0).stp0 S
  have sg' := hg'.stp0 S; have sh' := hh'.stp0 S
  refine a_iadN hP tyFree sg hlt ?_
  refine a_load_agg (cs := [vs[k]]) hkn sg (by rw [hP]; exact aggFree) (by rw [hP]; exact szFree) off (by simp) (cell1 hv) ?_
  refine a_sel1 (v := g') rfl ?_
  refine a_iadN hP tyE sg' hlt ?_
  refine a_load_agg (cs := encEL vs'[k]) hkn sg' (by rw [hP]; exact aggE) (by rw [hP]; exact szE) off (by simp [encEL]) (flat_at encEL_len vs' k _ hv') ?_
  refine look _ _ (unitL (3 + k)) _ _ _ _ (unit_lt _) (ul (by omega)) (fun w hw => ⟨rp (fv k _ hv) (S.trans0 hw.stp), rd (fv' k _ hv') (S.trans0 hw.stp)⟩) fun _ w6 _ k6 _ su6 => ?_
  have S6 := S.trans0 su6
  rw [ask_not]
  refine a_G_on on (a_iadN hP tyFree sh hlt ?_)
  refine a_G_on on (a_load_agg (cs := [us[k]]) k6 (sh.stp0 su6) (by rw [hP]; exact aggFree) (by rw [hP]; exact szFree) off (by simp) (cell1 hu) ?_)
  refine a_G_on on (a_sel1 (v := h') rfl ?_)
  refine a_G_on on (a_iadN hP tyE sh' hlt ?_)
  refine a_G_on on (a_load_agg (cs := encEL us'[k]) k6 (sh'.stp0 su6) (by rw [hP]; exact aggE) (by rw [hP]; exact szE) off (by simp [encEL]) (flat_at encEL_len us' k _ hu') ?_)
  refine a_GW_on on (look _ _ (unitL (3 + n + k)) _ _ _ _ (unit_lt _) (ul (by omega)) (fun w hw => ⟨rp (fu k _ hu) (S6.trans0 hw.stp), rd (fu' k _ hu') (S6.trans0 hw.stp)⟩) fun _ w7 _ k7 _ su7 => ?_)
  refine a_G_on on ?_
  rw [ask_not, show (!true) = false from rfl, ask_pickF]
  refine a_if (fun h => by cases h) fun _ => ?_
  rw [ask_succ (by omega)]
  intro w8 hw8
  exact ⟨⟨k + 1, rfl, hlt, (S6.trans0 su7).trans0 hw8.stp, hw8.kn⟩, by simp [intNat]; omega⟩
#print axioms keepsGensBases
end Go.Vc
