/-
  Lists over the document's scalars: E.Neg, E.Add, E.Double, of the kind Lists.
-/
import Derived.Test.YtpfidanjeacihaaGreatDoorDFr5
namespace Go.Vc
open Go Go.Proofs Go.RowKit

def cRNegF : Contract := fnW cEl (fun a _ => a.length ≤ mx) (fun a w v w' => Tre w.heap.size w' v (mulL (subL 0 1) a))
def Tnf : Table := ((T0.add 15 cRTim).add 49 cRInt).add 50 cRNeg
theorem keepTnf : AllKeep Tryz.prog GT Tnf := ((keepT0.add keepsRTim).add keepsRInt).add keepsRNeg
def ann13 : Ann := ⟨[], [50, 49], 70, [(15, false)], [1, 2], none, [], []⟩
def kb13_0 (b0 b1 : Nat) (x2 x3 : Value) : List KB := [⟨b0, true, 40, (aggArr x2)⟩, ⟨b1, true, 40, (aggArr x3)⟩]
theorem vc13 (X : Ctx) (β : Nat → Nat) (x0 : Value) : (run Tryz.prog ann13 13 [.x (.v 0)] [] [] 2).den X (env0 [x0] X.w0) 2 β 0 (fun _ _ _ => False) = (
  Ask (rAgg 26 x0) fun x2 =>
  AskNew X.w0 fun b0 =>
  Ask (rAgg 26 (.agg #[(J 0), (J 0), (J 0), (J 0), (J 0), (J 0), (J 0), (J 0), (J 0), (J 0), (J 0), (J 0), (J 0), (J 0), (J 0), (J 0), (J 0), (J 0), (J 0), (J 0), (J 0), (U 0), (U 0), (U 0), (U 0), (.slice none 0 0)])) fun x3 =>
  AskNew X.w0 fun b1 =>
  AskF X 49 [(U 1)] fun x4 =>
  AskF X 50 [x4] fun x5 =>
  AskW X X.w0 [] (kb13_0 b0 b1 x2 x3) false 15 [x2, x5] fun x6 w6 =>
  Ask (rAgg 26 x6) fun x7 =>
  Ret X w6 [b1] [] x7) := by kernel_rfl
theorem keepsRNegF : Keeps1 Tryz.prog GT 13 cRNegF := by
  refine keepsW (T := Tnf) (A := ann13) hMix keepTnf hGT (calls_of (by kernel_rfl)) (callsW_of (by kernel_rfl)) fun args l w0 hrd hpre hg => ?_
  obtain ⟨x, rfl, hl⟩ := hrd
  replace hl : Ls encS okS w0 x l := hl
  refine ⟨[.x (.v 0)], [], [], 2, env0 [EL x] w0, fun b => b, 0, rfl, rfl, fun X hX => mem_none hX rfl, fun X hP hS hw hX hR => ?_⟩
  subst hw; try dsimp only at hR
  rw [vc13 X]
  refine a_agg (cs := encEL x) rfl (one_encEL (slAt_one hl.1)) ?_
  intro b0 hb0
  refine a_agg (cs := zE) rfl rfl ?_
  intro b1 hb1
  refine call_PE hS (T := Tnf) (f := 49) rfl 1 (show 1 < B64 by decide) ?_
  refine call_PE hS (T := Tnf) (f := 50) rfl 1 (show 1 < lN by decide) ?_
  refine call_W hX hS (T := Tnf) (f := 15) rfl (l, subL 0 1) (fun w hw => ⟨⟨x, rfl, ⟨hl.1.stp0 hw.stp, hl.2⟩, show subL 0 1 < W256 by decide⟩, hpre⟩) fun v w4' w4 hw4 k4 s4 su4 hv => ?_
  obtain ⟨y, rfl, o4⟩ := hv
  have lo1 : b1 < w4'.heap.size := hw4.low (by simp [kb13_0])
  refine a_agg (cs := encEL y) rfl (one_encEL (own_one o4)) ?_
  exact hR _ _ _ _ fun w hw => ⟨y, rfl, own_mono (own_stp o4 hw.stp (off_own o4 (all1 lo1))) hw4.sz0⟩

/-! ### Add -/
theorem slAt_stpN {w w' : World} {v : Value} {n : Nat} {xs : List Value} {ex : List Nat} (h : SlAt w v n xs) (s : Stp ex w w') (he : ∀ b ∈ ex, w.heap.size ≤ b) : SlAt w' v n xs := by
  rcases Nat.eq_zero_or_pos xs.length with h0 | h0
  · rw [List.length_eq_zero_iff] at h0
    subst h0
    rcases h with h | ⟨b, o, cap, hv, hn, _⟩
    · exact .inl h
    · exact .inr ⟨b, o, cap, hv, hn, fun i x hx => by simp at hx⟩
  · exact h.stp s (slAt_off h h0 he)
def addR (n : Nat) (a b : List Nat) : List Nat := (List.range n).map fun i => (a.getD i 0 + b.getD i 0) % lN
def addE (a b : List Nat) : List Nat := addR (if a.length < b.length then b.length else a.length) a b
theorem addR_len (n : Nat) (a b : List Nat) : (addR n a b).length = n := by simp [addR]
theorem addR_lt (n : Nat) (a b : List Nat) : ∀ x ∈ addR n a b, x < lN := fun x hx => by
  obtain ⟨i, _, rfl⟩ := List.mem_map.1 hx; exact Nat.mod_lt _ (by decide)
def cRAddF : Contract := fnW cEl2 (fun p _ => (p.1.length ≤ mx ∧ p.2.length ≤ mx) ∧ (∀ x ∈ p.1, x < lN) ∧ ∀ x ∈ p.2, x < lN) (fun p w v w' => Tre w.heap.size w' v (addE p.1 p.2))
def Taf : Table := ((T0.add 6 cFreeOf).add 48 cPlace).add 47 cRAdd
theorem keepTaf : AllKeep Tryz.prog GT Taf := ((keepT0.add keepsFreeOf).add keepsPlace).add keepsRAdd
def ann12 : Ann := ⟨[(11, ([6, 7], []))], [45, 47, 46, 44], 70, [(6, false), (48, false)], [2, 3, 4], none, [], []⟩
def kb12_0 (b0 b1 b2 : Nat) (x3 x4 x5 : Value) : List KB := [⟨b0, true, 40, (aggArr x3)⟩, ⟨b1, true, 40, (aggArr x4)⟩, ⟨b2, true, 40, (aggArr x5)⟩]
def kb12_1 (b0 b1 b2 b3 : Nat) (x3 x4 x5 x23 x24 x25 x26 : Value) : List KB := [⟨b0, true, 40, (aggArr x3)⟩, ⟨b1, true, 40, (aggArr x4)⟩, ⟨b2, true, 40, (aggArr x5)⟩, ⟨b3, true, 37, #[x23, x24, x25, x26]⟩]
def kb12_2 (b0 b1 b2 b3 : Nat) (x3 x4 x5 x21 x22 x23 x24 : Value) : List KB := [⟨b0, true, 40, (aggArr x3)⟩, ⟨b1, true, 40, (aggArr x4)⟩, ⟨b2, true, 40, (aggArr x5)⟩, ⟨b3, true, 37, #[x21, x22, x23, x24]⟩]
theorem vc12 (X : Ctx) (β : Nat → Nat) (x0 x1 : Value) : (run Tryz.prog ann12 12 [.x (.v 0), .x (.v 1)] [] [] 3).den X (env0 [x0, x1] X.w0) 3 β 0 (fun _ _ _ => False) = (
  Ask (rAgg 26 x0) fun x3 =>
  AskNew X.w0 fun b0 =>
  Ask (rAgg 26 x1) fun x4 =>
  AskNew X.w0 fun b1 =>
  Ask (rAgg 26 (.agg #[(J 0), (J 0), (J 0), (J 0), (J 0), (J 0), (J 0), (J 0), (J 0), (J 0), (J 0), (J 0), (J 0), (J 0), (J 0), (J 0), (J 0), (J 0), (J 0), (J 0), (J 0), (U 0), (U 0), (U 0), (U 0), (.slice none 0 0)])) fun x5 =>
  AskNew X.w0 fun b2 =>
  Ask (rSel (aggArr x3) 0 1 false) fun x6 =>
  Ask (rBin X.P .eql 3 false true x6 (J 1)) fun x7 =>
  (∃ t, x7 = .bool t) ∧ (x7 = .bool true →
    Ask (rSel (aggArr x3) 1 20 true) fun x8 =>
    Ask (rSel (aggArr x4) 1 20 true) fun x9 =>
    AskF X 45 [x8, x9] fun x10 =>
    AskF X 44 [x10] fun x11 =>
    Ask (rAgg 26 x11) fun x12 =>
    Ret X X.w0 [b2] [] x12) ∧ (x7 = .bool false →
    Ask (rBin X.P .eql 3 false true x6 (J 2)) fun x8 =>
    (∃ t, x8 = .bool t) ∧ (x8 = .bool true →
      Ask (rSel (aggArr x3) 21 4 true) fun x9 =>
      Ask (rSel (aggArr x4) 21 4 true) fun x10 =>
      AskF X 47 [x9, x10] fun x11 =>
      AskF X 46 [x11] fun x12 =>
      Ask (rAgg 26 x12) fun x13 =>
      Ret X X.w0 [b2] [] x13) ∧ (x8 = .bool false →
      Ask (rSel (aggArr x3) 25 1 false) fun x9 =>
      Ask (rLen X.P 38 x9) fun x10 =>
      Ask (rSel (aggArr x4) 25 1 false) fun x11 =>
      Ask (rLen X.P 38 x11) fun x12 =>
      Ask (rBin X.P .gtr 3 false false x12 x10) fun x13 =>
      (∃ t, x13 = .bool t) ∧ (x13 = .bool true →
        Ask (rSel (aggArr x4) 25 1 false) fun x14 =>
        Ask (rLen X.P 38 x14) fun x15 =>
        ∃ (I0 : List Value → World → Prop) (μ0 : List Value → World → Nat), (∀ w, KnownV X X.w0 [] (kb12_0 b0 b1 b2 x3 x4 x5) w → I0 [(.slice none 0 0), (J 0)] w) ∧ ∀ x16 x17 w18, I0 [x16, x17] w18 →
          Ask (rBin X.P .lss 3 false false x17 x15) fun x19 =>
          (∃ t, x19 = .bool t) ∧ (x19 = .bool true →
            Ask (rSel (aggArr x3) 25 1 false) fun x20 =>
            AskW X w18 [] (kb12_0 b0 b1 b2 x3 x4 x5) false 48 [x20, x17] fun x21 w21 =>
            AskNew w21 fun b3 =>
            Ask (rAgg 4 x21) fun x22 =>
            Ask (rSel (aggArr x22) 0 1 false) fun x23 =>
            Ask (rSel (aggArr x22) 1 1 false) fun x24 =>
            Ask (rSel (aggArr x22) 2 1 false) fun x25 =>
            Ask (rSel (aggArr x22) 3 1 false) fun x26 =>
            Ask (rSel (aggArr x4) 25 1 false) fun x27 =>
            AskW X w21 [b3] (kb12_1 b0 b1 b2 b3 x3 x4 x5 x23 x24 x25 x26) false 48 [x27, x17] fun x28 w28 =>
            AskF X 47 [(.agg #[x23, x24, x25, x26]), x28] fun x29 =>
            AskO X w28 [] (kb12_1 b0 b1 b2 b3 x3 x4 x5 x23 x24 x25 x26) false (Go.Op.buildSlice 38 1 #[(0, Go.Operand.tmp 53)]) 38 [(53, x29)] fun x30 w30 =>
            AskO X w30 [] (kb12_1 b0 b1 b2 b3 x3 x4 x5 x23 x24 x25 x26) true (appOp (.tmp 47) (.tmp 54) 38) 38 [(47, x16), (54, x30)] fun x31 w31 =>
            Ask (rBin X.P .add 3 false true x17 (J 1)) fun x32 =>
            Again X w31 [] [] fun w => I0 [x31, x32] w ∧ μ0 [x31, x32] w < μ0 [x16, x17] w18) ∧ (x19 = .bool false →
            AskW X w18 [] (kb12_0 b0 b1 b2 x3 x4 x5) false 6 [x16] fun x20 w20 =>
            Ask (rAgg 26 x20) fun x21 =>
            Ret X w20 [b2] [] x21)) ∧ (x13 = .bool false →
        ∃ (I0 : List Value → World → Prop) (μ0 : List Value → World → Nat), (∀ w, KnownV X X.w0 [] (kb12_0 b0 b1 b2 x3 x4 x5) w → I0 [(.slice none 0 0), (J 0)] w) ∧ ∀ x14 x15 w16, I0 [x14, x15] w16 →
          Ask (rBin X.P .lss 3 false false x15 x10) fun x17 =>
          (∃ t, x17 = .bool t) ∧ (x17 = .bool true →
            Ask (rSel (aggArr x3) 25 1 false) fun x18 =>
            AskW X w16 [] (kb12_0 b0 b1 b2 x3 x4 x5) false 48 [x18, x15] fun x19 w19 =>
            AskNew w19 fun b3 =>
            Ask (rAgg 4 x19) fun x20 =>
            Ask (rSel (aggArr x20) 0 1 false) fun x21 =>
            Ask (rSel (aggArr x20) 1 1 false) fun x22 =>
            Ask (rSel (aggArr x20) 2 1 false) fun x23 =>
            Ask (rSel (aggArr x20) 3 1 false) fun x24 =>
            Ask (rSel (aggArr x4) 25 1 false) fun x25 =>
            AskW X w19 [b3] (kb12_2 b0 b1 b2 b3 x3 x4 x5 x21 x22 x23 x24) false 48 [x25, x15] fun x26 w26 =>
            AskF X 47 [(.agg #[x21, x22, x23, x24]), x26] fun x27 =>
            AskO X w26 [] (kb12_2 b0 b1 b2 b3 x3 x4 x5 x21 x22 x23 x24) false (Go.Op.buildSlice 38 1 #[(0, Go.Operand.tmp 53)]) 38 [(53, x27)] fun x28 w28 =>
            AskO X w28 [] (kb12_2 b0 b1 b2 b3 x3 x4 x5 x21 x22 x23 x24) true (appOp (.tmp 47) (.tmp 54) 38) 38 [(47, x14), (54, x28)] fun x29 w29 =>
            Ask (rBin X.P .add 3 false true x15 (J 1)) fun x30 =>
            Again X w29 [] [] fun w => I0 [x29, x30] w ∧ μ0 [x29, x30] w < μ0 [x14, x15] w16) ∧ (x17 = .bool false →
            AskW X w16 [] (kb12_0 b0 b1 b2 x3 x4 x5) false 6 [x14] fun x18 w18 =>
            Ask (rAgg 26 x18) fun x19 =>
            Ret X w18 [b2] [] x19))))) := by kernel_rfl
theorem keepsRAddF : Keeps1 Tryz.prog GT 12 cRAddF := by
  refine keepsW (T := Taf) (A := ann12) hMix keepTaf hGT (calls_of (by kernel_rfl)) (callsW_of (by kernel_rfl)) fun args ⟨la, lb⟩ w0 hrd hpre hg => ?_
  obtain ⟨x, y, rfl, ha, hb⟩ := hrd
  dsimp only at ha hb hpre
  replace ha : Ls encS okS w0 x la := ha
  replace hb : Ls encS okS w0 y lb := hb
  simp only [mx] at hpre
  refine ⟨[.x (.v 0), .x (.v 1)], [], [], 3, env0 [EL x, EL y] w0, fun b => b, 0, rfl, rfl, fun X hX => mem_none hX rfl, fun X hP hS hw hX hR => ?_⟩
  subst hw; try dsimp only at hR
  rw [vc12 X]
  refine a_agg (cs := encEL x) rfl (one_encEL (slAt_one ha.1)) ?_
  intro b0 hb0
  refine a_agg (cs := encEL y) rfl (one_encEL (slAt_one hb.1)) ?_
  intro b1 hb1
  refine a_agg (cs := zE) rfl rfl ?_
  intro b2 hb2
  refine a_sel1 rfl ?_
  rw [ask_eqlN]
  refine a_ifD (fun h => by omega) fun _ => ?_
  rw [ask_eqlN]
  refine a_ifD (fun h => by omega) fun _ => ?_
  refine a_sel1 rfl (a_len hP tyR ha.1 ?_)
  refine a_sel1 rfl (a_len hP tyR hb.1 ?_)
  rw [ask_gtrN]
  refine a_ifD (fun hab => ?_) fun hab => ?_
  · rw [show addE la lb = addR lb.length la lb by unfold addE; rw [if_pos hab]] at hR
    refine a_sel1 rfl (a_len hP tyR hb.1 ?_)
    have hml := addR_len lb.length la lb
    refine ⟨fun a w => ∃ (j B : Nat) (o : Value), a = [o, J j] ∧ j ≤ lb.length ∧ (b0 < B ∧ b1 < B ∧ b2 < B) ∧ X.w0.heap.size ≤ B ∧ B ≤ w.heap.size ∧ w.ownsRow B 37 4 o j (((addR lb.length la lb).take j).flatMap encS) ∧ Kn X w, fun a _ => match a with | [_, i] => lb.length - intNat i | _ => 0,
      fun w2 hw2 => ⟨0, w2.heap.size, _, rfl, Nat.zero_le _, ⟨hw2.low (by simp [kb12_0]), hw2.low (by simp [kb12_0]), hw2.low (by simp [kb12_0])⟩, hw2.sz0, Nat.le_refl _, World.ownsRow_nil _ _ _ _, hw2.kn⟩, ?_⟩
    rintro o _ w2 ⟨j, B, _, he, hj, hB, hB0, hBw, ho, hkn2⟩
    simp only [List.cons.injEq, and_true] at he
    obtain ⟨rfl, rfl⟩ := he
    rw [ask_lssN]
    refine a_ifD (fun hlt => ?_) fun hge => ?_
    · refine a_sel1 rfl ?_
      refine call_W hX hS (T := Taf) (f := 48) rfl (la, j) (fun w hw => ⟨⟨x, rfl, ⟨(ha.1.stp0 (hkn2.stp0 hX)).stp0 hw.stp, ha.2⟩⟩, trivial⟩) fun v w4' w4 hw4 k4 s4 su4 hv => ?_
      obtain rfl := hv
      dsimp only
      intro b3 hb3
      refine a_agg (cs := encS (la.getD j 0)) rfl (one_encS _) ?_
      iterate 4 refine a_sel1 rfl ?_
      refine a_sel1 rfl ?_
      have ho4 := own_stp0 ho su4
      refine call_W hX hS (T := Taf) (f := 48) rfl (lb, j) (fun w hw => ⟨⟨y, rfl, ⟨slAt_stpN (hb.1.stp0 (k4.stp0 hX)) hw.stp (all1 hb3), hb.2⟩⟩, trivial⟩) fun v w6' w6 hw6 k6 s6 su6 hv => ?_
      obtain rfl := hv
      dsimp only
      have ho6 := own_stp ho4 su6 (own_off ho4 (all1 hb3))
      refine call_PE hS (T := Taf) (f := 47) rfl (la.getD j 0, lb.getD j 0) ⟨getD_lt hpre.2.1 (by decide) j, getD_lt hpre.2.2 (by decide) j⟩ ?_
      have z4 := su4.size
      have z6 := su6.size
      refine a_pushB (encS ((la.getD j 0 + lb.getD j 0) % lN)).toArray hX hP tyR rfl rfl (by decide) (by decide) (by decide) (by kernel_rfl) rfl (one_encS' _) (fun g hg => by have := ho.lt g hg; simp [kb12_1]; omega) hB0 (by omega) ho6 (by simp only [maxLen]; omega) (by omega) fun o' w' k' s' ho' => ?_
      rw [ask_succ (by omega)]
      intro w3 hw3
      refine ⟨⟨j + 1, B, o', rfl, hlt, hB, hB0, by have := s'.size; have := hw3.size; omega, ?_, hw3.kn⟩, by simp [intNat]; omega⟩
      rw [flat_take (addR lb.length la lb) j (by omega)]
      have e : (addR lb.length la lb)[j]'(by omega) = (la.getD j 0 + lb.getD j 0) % lN := by simp [addR]
      rw [e]
      exact own_stp0 ho' hw3.stp
    · obtain rfl : j = lb.length := by omega
      rw [List.take_of_length_le (by omega)] at ho
      refine call_W hX hS (T := Taf) (f := 6) rfl (addR lb.length la lb, ()) (fun w hw => ⟨⟨_, _, rfl, (⟨by rw [hml]; exact (own_slAt ho).stp0 hw.stp, fun y hy => Nat.lt_trans (addR_lt _ _ _ y hy) (by decide)⟩ : Ls encS okS _ _ _), rfl⟩, by rw [hml]; simp only [mx]; omega⟩) fun v w5 w6 h5 k6 s6 _ hp => ?_
      obtain ⟨y, rfl, oy⟩ := hp
      dsimp only at oy
      have b5 : b2 < w5.heap.size := h5.low (by simp [kb12_0])
      refine a_agg (cs := encEL y) rfl (one_encEL (own_one oy)) ?_
      exact hR _ _ _ _ fun w hw => ⟨y, rfl, own_mono (own_stp oy hw.stp (off_own oy (all1 b5))) h5.sz0⟩
  · rw [show addE la lb = addR la.length la lb by unfold addE; rw [if_neg hab]] at hR
    have hml := addR_len la.length la lb
    refine ⟨fun a w => ∃ (j B : Nat) (o : Value), a = [o, J j] ∧ j ≤ la.length ∧ (b0 < B ∧ b1 < B ∧ b2 < B) ∧ X.w0.heap.size ≤ B ∧ B ≤ w.heap.size ∧ w.ownsRow B 37 4 o j (((addR la.length la lb).take j).flatMap encS) ∧ Kn X w, fun a _ => match a with | [_, i] => la.length - intNat i | _ => 0,
      fun w2 hw2 => ⟨0, w2.heap.size, _, rfl, Nat.zero_le _, ⟨hw2.low (by simp [kb12_0]), hw2.low (by simp [kb12_0]), hw2.low (by simp [kb12_0])⟩, hw2.sz0, Nat.le_refl _, World.ownsRow_nil _ _ _ _, hw2.kn⟩, ?_⟩
    rintro o _ w2 ⟨j, B, _, he, hj, hB, hB0, hBw, ho, hkn2⟩
    simp only [List.cons.injEq, and_true] at he
    obtain ⟨rfl, rfl⟩ := he
    rw [ask_lssN]
    refine a_ifD (fun hlt => ?_) fun hge => ?_
    · refine a_sel1 rfl ?_
      refine call_W hX hS (T := Taf) (f := 48) rfl (la, j) (fun w hw => ⟨⟨x, rfl, ⟨(ha.1.stp0 (hkn2.stp0 hX)).stp0 hw.stp, ha.2⟩⟩, trivial⟩) fun v w4' w4 hw4 k4 s4 su4 hv => ?_
      obtain rfl := hv
      dsimp only
      intro b3 hb3
      refine a_agg (cs := encS (la.getD j 0)) rfl (one_encS _) ?_
      iterate 4 refine a_sel1 rfl ?_
      refine a_sel1 rfl ?_
      have ho4 := own_stp0 ho su4
      refine call_W hX hS (T := Taf) (f := 48) rfl (lb, j) (fun w hw => ⟨⟨y, rfl, ⟨slAt_stpN (hb.1.stp0 (k4.stp0 hX)) hw.stp (all1 hb3), hb.2⟩⟩, trivial⟩) fun v w6' w6 hw6 k6 s6 su6 hv => ?_
      obtain rfl := hv
      dsimp only
      have ho6 := own_stp ho4 su6 (own_off ho4 (all1 hb3))
      refine call_PE hS (T := Taf) (f := 47) rfl (la.getD j 0, lb.getD j 0) ⟨getD_lt hpre.2.1 (by decide) j, getD_lt hpre.2.2 (by decide) j⟩ ?_
      have z4 := su4.size
      have z6 := su6.size
      refine a_pushB (encS ((la.getD j 0 + lb.getD j 0) % lN)).toArray hX hP tyR rfl rfl (by decide) (by decide) (by decide) (by kernel_rfl) rfl (one_encS' _) (fun g hg => by have := ho.lt g hg; simp [kb12_2]; omega) hB0 (by omega) ho6 (by simp only [maxLen]; omega) (by omega) fun o' w' k' s' ho' => ?_
      rw [ask_succ (by omega)]
      intro w3 hw3
      refine ⟨⟨j + 1, B, o', rfl, hlt, hB, hB0, by have := s'.size; have := hw3.size; omega, ?_, hw3.kn⟩, by simp [intNat]; omega⟩
      rw [flat_take (addR la.length la lb) j (by omega)]
      have e : (addR la.length la lb)[j]'(by omega) = (la.getD j 0 + lb.getD j 0) % lN := by simp [addR]
      rw [e]
      exact own_stp0 ho' hw3.stp
    · obtain rfl : j = la.length := by omega
      rw [List.take_of_length_le (by omega)] at ho
      refine call_W hX hS (T := Taf) (f := 6) rfl (addR la.length la lb, ()) (fun w hw => ⟨⟨_, _, rfl, (⟨by rw [hml]; exact (own_slAt ho).stp0 hw.stp, fun y hy => Nat.lt_trans (addR_lt _ _ _ y hy) (by decide)⟩ : Ls encS okS _ _ _), rfl⟩, by rw [hml]; simp only [mx]; omega⟩) fun v w5 w6 h5 k6 s6 _ hp => ?_
      obtain ⟨y, rfl, oy⟩ := hp
      dsimp only at oy
      have b5 : b2 < w5.heap.size := h5.low (by simp [kb12_0])
      refine a_agg (cs := encEL y) rfl (one_encEL (own_one oy)) ?_
      exact hR _ _ _ _ fun w hw => ⟨y, rfl, own_mono (own_stp oy hw.stp (off_own oy (all1 b5))) h5.sz0⟩

def cRDblF : Contract := fnW cEl (fun a _ => a.length ≤ mx ∧ ∀ x ∈ a, x < lN) (fun a w v w' => Tre w.heap.size w' v (addE a a))
def Tdf : Table := T0.add 12 cRAddF
theorem keepTdf : AllKeep Tryz.prog GT Tdf := keepT0.add keepsRAddF
def ann14 : Ann := ⟨[], [], 70, [(12, false)], [1, 2], none, [], []⟩
def kb14_0 (b0 b1 : Nat) (x2 x3 : Value) : List KB := [⟨b0, true, 40, (aggArr x2)⟩, ⟨b1, true, 40, (aggArr x3)⟩]
theorem vc14 (X : Ctx) (β : Nat → Nat) (x0 : Value) : (run Tryz.prog ann14 14 [.x (.v 0)] [] [] 2).den X (env0 [x0] X.w0) 2 β 0 (fun _ _ _ => False) = (
  Ask (rAgg 26 x0) fun x2 =>
  AskNew X.w0 fun b0 =>
  Ask (rAgg 26 (.agg #[(J 0), (J 0), (J 0), (J 0), (J 0), (J 0), (J 0), (J 0), (J 0), (J 0), (J 0), (J 0), (J 0), (J 0), (J 0), (J 0), (J 0), (J 0), (J 0), (J 0), (J 0), (U 0), (U 0), (U 0), (U 0), (.slice none 0 0)])) fun x3 =>
  AskNew X.w0 fun b1 =>
  AskW X X.w0 [] (kb14_0 b0 b1 x2 x3) false 12 [x2, x2] fun x4 w4 =>
  Ask (rAgg 26 x4) fun x5 =>
  Ret X w4 [b1] [] x5) := by kernel_rfl
theorem keepsRDblF : Keeps1 Tryz.prog GT 14 cRDblF := by
  refine keepsW (T := Tdf) (A := ann14) hMix keepTdf hGT (calls_of (by kernel_rfl)) (callsW_of (by kernel_rfl)) fun args l w0 hrd hpre hg => ?_
  obtain ⟨x, rfl, hl⟩ := hrd
  replace hl : Ls encS okS w0 x l := hl
  refine ⟨[.x (.v 0)], [], [], 2, env0 [EL x] w0, fun b => b, 0, rfl, rfl, fun X hX => mem_none hX rfl, fun X hP hS hw hX hR => ?_⟩
  subst hw; try dsimp only at hR
  rw [vc14 X]
  refine a_agg (cs := encEL x) rfl (one_encEL (slAt_one hl.1)) ?_
  intro b0 hb0
  refine a_agg (cs := zE) rfl rfl ?_
  intro b1 hb1
  refine call_W hX hS (T := Tdf) (f := 12) rfl (l, l) (fun w hw => ⟨⟨x, x, rfl, ⟨hl.1.stp0 hw.stp, hl.2⟩, ⟨hl.1.stp0 hw.stp, hl.2⟩⟩, ⟨hpre.1, hpre.1⟩, hpre.2, hpre.2⟩) fun v w4' w4 hw4 k4 s4 su4 hv => ?_
  obtain ⟨y, rfl, o4⟩ := hv
  have lo1 : b1 < w4'.heap.size := hw4.low (by simp [kb14_0])
  refine a_agg (cs := encEL y) rfl (one_encEL (own_one o4)) ?_
  exact hR _ _ _ _ fun w hw => ⟨y, rfl, own_mono (own_stp o4 hw.stp (off_own o4 (all1 lo1))) hw4.sz0⟩
#print axioms keepsRDblF
end Go.Vc
