/-
  Claims of one element over the scalars (msm.Line); alive.
-/
import Derived.Test.YtapkkciimlffnaaGreatDoorDSs2
namespace Go.Vc
open Go Go.Proofs Go.RowKit

/-- A claim of one element, its image. -/
def cC1 : Cod (Nat × Nat) := ⟨fun w v p => cClaim.rd w v ([[p.1]], [p.2]), fun w v p q h k => by
  have := cClaim.inj _ _ _ _ h k
  simp only [Prod.mk.injEq, List.cons.injEq, and_true] at this
  exact Prod.ext this.1 this.2⟩
theorem cC1_stable : cC1.Stable := fun _ _ _ _ hs h => cClaim_stable _ _ _ _ hs h
theorem c1_form {w : World} {v : Value} {p : Nat × Nat} (h : cC1.rd w v p) : ∃ rows images row, v = .agg #[rows, images] ∧ SlAt w rows 1 [row] ∧ Ls encS okS w row [p.1] ∧ Ls encS okS w images [p.2] := by
  obtain ⟨rows, images, e, h1, h2⟩ := h
  obtain ⟨row, s1, hr⟩ := rd1 h1
  exact ⟨rows, images, row, e, s1, hr, h2⟩
theorem aggLLn : agg? Tryz.prog 49 = some false := by kernel_rfl
theorem one_of {l : List Nat} {P : List Nat → Prop} (h : ∀ a, P [a]) (hl : l.length = 1) : P l := by
  match l, hl with
  | [a], _ => exact h a

/-! ### width -/
def cWid1 : Contract := fnW (Cods.cons cC1 Cods.nil) (fun _ _ => True) (fun _ _ v _ => v = J 1)
def ann100 : Ann := ⟨[(5, ([27], []))], [], 70, [], [], none, [], []⟩
def kb100_0 (b0 : Nat) (x3 x4 : Value) : List KB := [⟨b0, true, 93, #[x3, x4]⟩]
theorem vc100 (X : Ctx) (β : Nat → Nat) (x0 : Value) : (run Tryz.prog ann100 100 [.x (.v 0)] [] [] 2).den X (env0 [x0] X.w0) 2 β 0 (fun _ _ _ => False) = (
  Ask (rAgg 2 x0) fun x2 =>
  Ask (rSel (aggArr x2) 0 1 false) fun x3 =>
  Ask (rSel (aggArr x2) 1 1 false) fun x4 =>
  AskNew X.w0 fun b0 =>
  Ask (rLen X.P 91 x3) fun x5 =>
  Ask (rBin X.P .eql 3 false true x5 (J 0)) fun x6 =>
  AskG [(x6, false)] (rLen X.P 49 x4) fun x7 =>
  AskG [(x6, false)] (rLen X.P 91 x3) fun x8 =>
  AskG [(x6, false)] (rBin X.P .neq 3 false false x7 x8) fun x9 =>
  Ask (rPick x6 (.bool true) x9) fun x10 =>
  (∃ t, x10 = .bool t) ∧ (x10 = .bool true →
    Ret X X.w0 [] [] (J 0)) ∧ (x10 = .bool false →
    Ask (rIad X.P 91 x3 (J 0)) fun x11 =>
    Ask (rLoad X X.w0 [] 49 x11) fun x12 =>
    Ask (rLen X.P 49 x12) fun x13 =>
    Ask (rLen X.P 91 x3) fun x14 =>
    ∃ (I0 : List Value → World → Prop) (μ0 : List Value → World → Nat), (∀ w, KnownV X X.w0 [] (kb100_0 b0 x3 x4) w → I0 [(J 0)] w) ∧ ∀ x15 w16, I0 [x15] w16 →
      Ask (rBin X.P .lss 3 false false x15 x14) fun x17 =>
      (∃ t, x17 = .bool t) ∧ (x17 = .bool true →
        Ask (rIad X.P 91 x3 x15) fun x18 =>
        Ask (rLoad X w16 [] 49 x18) fun x19 =>
        Ask (rLen X.P 49 x19) fun x20 =>
        Ask (rBin X.P .neq 3 false false x20 x13) fun x21 =>
        (∃ t, x21 = .bool t) ∧ (x21 = .bool true →
          Ret X w16 [] [] (J 0)) ∧ (x21 = .bool false →
          Ask (rBin X.P .add 3 false true x15 (J 1)) fun x22 =>
          Again X w16 [] [] fun w => I0 [x22] w ∧ μ0 [x22] w < μ0 [x15] w16)) ∧ (x17 = .bool false →
        Ret X w16 [] [] x13))) := by kernel_rfl
theorem keepsWid1 : Keeps1 Tryz.prog GT 100 cWid1 := by
  refine keepsW (T := T0) (A := ann100) hMix keepT0 hGT (calls_of (by kernel_rfl)) (callsW_of (by kernel_rfl)) fun args ⟨⟨g, x⟩, _⟩ w0 hrd hpre hg => ?_
  obtain ⟨_, _, rfl, hcl, rfl⟩ := hrd
  obtain ⟨rows, images, row, rfl, h1, h3, h2⟩ := c1_form hcl
  dsimp only at h3 h2
  refine ⟨[.x (.v 0)], [], [], 2, env0 [.agg #[rows, images]] w0, fun b => b, 0, rfl, rfl, fun X hX => mem_none hX rfl, fun X hP hS hw hX hR => ?_⟩
  subst hw; try dsimp only at hR
  rw [vc100 X]
  refine a_agg (cs := [rows, images]) rfl (by simp [slAt_one h1, slAt_one h2.1]) ?_
  iterate 2 refine a_sel1 rfl ?_
  intro b0 hb0
  refine a_len hP tyLL h1 ?_
  rw [ask_eqlN, decide_eq_false (by decide)]
  refine a_G_on condsV1 (a_len (n := 1) hP tyL h2.1 ?_)
  refine a_G_on condsV1 (a_len hP tyLL h1 ?_)
  refine a_G_on condsV1 ?_
  rw [ask_neqN, decide_eq_true rfl, Bool.not_true, ask_pickF]
  refine a_if (fun h => by cases h) fun _ => ?_
  refine a_iadN (i := 0) hP tyLL h1 (by decide) ?_
  refine a_load_one (c := row) (kn0 X) h1 (by rw [hP]; exact aggLLn) (fun _ _ => List.not_mem_nil) rfl ?_
  refine a_len (n := 1) hP tyL h3.1 ?_
  refine a_len hP tyLL h1 ?_
  refine ⟨fun a w => ∃ i, a = [J i] ∧ i ≤ 1 ∧ Kn X w, fun a _ => match a with | [i] => 1 - intNat i | _ => 0, fun w hw => ⟨0, rfl, Nat.zero_le _, hw.kn⟩, ?_⟩
  rintro _ w ⟨i, he, hi, hk⟩
  simp only [List.cons.injEq, and_true] at he
  subst he
  rw [ask_lssN]
  refine a_ifD (fun hlt => ?_) fun hge => ?_
  · obtain rfl : i = 0 := by omega
    have h1' := h1.stp0 (hk.stp0 hX)
    refine a_iadN (i := 0) hP tyLL h1' (by decide) ?_
    refine a_load_one (c := row) hk h1' (by rw [hP]; exact aggLLn) (fun _ _ => List.not_mem_nil) rfl ?_
    refine a_len (n := 1) hP tyL h3.1 ?_
    rw [ask_neqN, decide_eq_true rfl, Bool.not_true]
    refine a_if (fun h => by cases h) fun _ => ?_
    rw [ask_succ (by decide)]
    intro w2 hw2
    exact ⟨⟨1, rfl, by decide, hw2.kn⟩, by simp [intNat]⟩
  · exact hR _ _ _ _ fun _ _ => rfl

/-! ### fits -/
def cFit1 : Contract := fnW (Cods.cons cC1 (Cods.cons (cLL cLS) Cods.nil)) (fun p _ => ∃ a, p.2.1 = [[a]]) (fun _ _ v _ => v = .bool true)
def Twi1 : Table := T0.add 100 cWid1
theorem keepTwi1 : AllKeep Tryz.prog GT Twi1 := keepT0.add keepsWid1
def ann83 : Ann := ⟨[(3, ([12], []))], [], 70, [(100, false)], [], none, [], []⟩
def kb83_0 (b0 : Nat) (x4 x5 : Value) : List KB := [⟨b0, true, 93, #[x4, x5]⟩]
theorem vc83 (X : Ctx) (β : Nat → Nat) (x0 x1 : Value) : (run Tryz.prog ann83 83 [.x (.v 0), .x (.v 1)] [] [] 3).den X (env0 [x0, x1] X.w0) 3 β 0 (fun _ _ _ => False) = (
  Ask (rAgg 2 x0) fun x3 =>
  Ask (rSel (aggArr x3) 0 1 false) fun x4 =>
  Ask (rSel (aggArr x3) 1 1 false) fun x5 =>
  AskNew X.w0 fun b0 =>
  AskW X X.w0 [] (kb83_0 b0 x4 x5) false 100 [(.agg #[x4, x5])] fun x6 w6 =>
  Ask (rLen X.P 151 x1) fun x7 =>
  ∃ (I0 : List Value → World → Prop) (μ0 : List Value → World → Nat), (∀ w, KnownV X w6 [] (kb83_0 b0 x4 x5) w → I0 [(J 0)] w) ∧ ∀ x8 w9, I0 [x8] w9 →
    Ask (rBin X.P .lss 3 false false x8 x7) fun x10 =>
    (∃ t, x10 = .bool t) ∧ (x10 = .bool true →
      Ask (rIad X.P 151 x1 x8) fun x11 =>
      Ask (rLoad X w9 [] 22 x11) fun x12 =>
      Ask (rLen X.P 22 x12) fun x13 =>
      Ask (rBin X.P .neq 3 false false x13 x6) fun x14 =>
      (∃ t, x14 = .bool t) ∧ (x14 = .bool true →
        Ret X w9 [] [] (.bool false)) ∧ (x14 = .bool false →
        Ask (rBin X.P .add 3 false true x8 (J 1)) fun x15 =>
        Again X w9 [] [] fun w => I0 [x15] w ∧ μ0 [x15] w < μ0 [x8] w9)) ∧ (x10 = .bool false →
      Ask (rBin X.P .gtr 3 false true x6 (J 0)) fun x11 =>
      Ret X w9 [] [] x11)) := by kernel_rfl
theorem keepsFit1 : Keeps1 Tryz.prog GT 83 cFit1 := by
  refine keepsW (T := Twi1) (A := ann83) hMix keepTwi1 hGT (calls_of (by kernel_rfl)) (callsW_of (by kernel_rfl)) fun args ⟨⟨g, x⟩, as1, _⟩ w0 hrd hpre hg => ?_
  obtain ⟨_, _, rfl, hcl, q, _, rfl, hy, rfl⟩ := hrd
  obtain ⟨a, e⟩ := hpre
  dsimp only at hcl hy e
  subst e
  obtain ⟨rows, images, row, rfl, h1, h3, h2⟩ := c1_form hcl
  obtain ⟨y, hys, hya⟩ := rd1 hy
  refine ⟨[.x (.v 0), .x (.v 1)], [], [], 3, env0 [.agg #[rows, images], q] w0, fun b => b, 0, rfl, rfl, fun X hX => mem_none hX rfl, fun X hP hS hw hX hR => ?_⟩
  subst hw; try dsimp only at hR
  rw [vc83 X]
  refine a_agg (cs := [rows, images]) rfl (by simp [slAt_one h1, slAt_one h2.1]) ?_
  iterate 2 refine a_sel1 rfl ?_
  intro b0 hb0
  refine call_W hX hS (T := Twi1) (f := 100) rfl ((g, x), ()) (fun w hw => ⟨⟨_, _, rfl, cC1_stable _ _ _ _ (hw.kn.stp0 hX) hcl, rfl⟩, trivial⟩) fun v w1 w1' hw1 k1 s1 su1 hv => ?_
  subst hv
  refine a_len hP tyLLS hys ?_
  refine ⟨fun a w => ∃ i, a = [J i] ∧ i ≤ 1 ∧ Kn X w, fun a _ => match a with | [i] => 1 - intNat i | _ => 0, fun w hw => ⟨0, rfl, Nat.zero_le _, hw.kn⟩, ?_⟩
  rintro _ w ⟨i, he, hi, hk⟩
  simp only [List.cons.injEq, and_true] at he
  subst he
  rw [ask_lssN]
  refine a_ifD (fun hlt => ?_) fun hge => ?_
  · obtain rfl : i = 0 := by omega
    have hy' := hys.stp0 (hk.stp0 hX)
    refine a_iadN (i := 0) hP tyLLS hy' Nat.zero_lt_one ?_
    refine a_load_one (c := y) hk hy' (by rw [hP]; exact aggLSs) (fun _ _ => List.not_mem_nil) rfl ?_
    refine a_len (n := 1) hP tyS' hya.1 ?_
    rw [ask_neqN, decide_eq_true rfl, Bool.not_true]
    refine a_if (fun h => by cases h) fun _ => ?_
    rw [ask_succ (by decide)]
    intro w2 hw2
    exact ⟨⟨1, rfl, by decide, hw2.kn⟩, by simp [intNat]⟩
  · rw [ask_gtrN, decide_eq_true (by decide)]
    exact hR _ _ _ _ fun _ _ => rfl

/-! ### sum -/
def Tsu1 : Table := T0.add 93 cPlainL
theorem keepTsu1 : AllKeep Tryz.prog GT Tsu1 := keepT0.add keepsPlainL
def ann114 : Ann := ⟨[], [], 70, [(93, false), (94, false)], [2, 3], none, [], []⟩
def kb114_0 (b0 : Nat) (x2 : Value) : List KB := [⟨b0, true, 48, (aggArr x2)⟩]
theorem vc114 (X : Ctx) (β : Nat → Nat) (x0 : Value) : (run Tryz.prog ann114 114 [.x (.v 0)] [] [] 2).den X (env0 [x0] X.w0) 2 β 0 (fun _ _ _ => False) = (
  Ask (rAgg 4 (.agg #[(U 0), (U 0), (U 0), (U 0)])) fun x2 =>
  AskNew X.w0 fun b0 =>
  Ask (rLen X.P 112 x0) fun x3 =>
  Ask (rBin X.P .lss 3 false true x3 (J 24)) fun x4 =>
  (∃ t, x4 = .bool t) ∧ (x4 = .bool true →
    AskW X X.w0 [] (kb114_0 b0 x2) false 93 [x0] fun x5 w5 =>
    Ask (rAgg 4 x5) fun x6 =>
    Ret X w5 [b0] [] x6) ∧ (x4 = .bool false →
    AskW X X.w0 [] (kb114_0 b0 x2) false 94 [x0] fun x5 w5 =>
    Ask (rExt X.P x5 0) fun x6 =>
    Ask (rExt X.P x5 1) fun x7 =>
    Ask (rAgg 4 (.agg #[(U 0), (U 0), (U 0), (U 0)])) fun _ =>
    AskNew w5 fun b1 =>
    AskNew w5 fun b2 =>
    Ask (rAgg 4 x6) fun x9 =>
    Ask (rAgg 2 x7) fun x10 =>
    Ask (rSel (aggArr x10) 0 1 false) fun _ =>
    Ask (rSel (aggArr x10) 1 1 false) fun _ =>
    Ask (rAgg 4 x9) fun x13 =>
    Ret X w5 [b0, b2, b1] [] x13)) := by kernel_rfl
theorem keepsSSumL : Keeps1 Tryz.prog GT 114 cSumL := by
  refine keepsW (T := Tsu1) (A := ann114) hMix keepTsu1 hGT (calls_of (by kernel_rfl)) (callsW_of (by kernel_rfl)) fun args ⟨ts, _⟩ w0 hrd hpre hg => ?_
  obtain ⟨x, _, rfl, hl, rfl⟩ := hrd
  dsimp only at hl hpre
  replace hl : Ls encT okT w0 x ts := hl
  refine ⟨[.x (.v 0)], [], [], 2, env0 [x] w0, fun b => b, 0, rfl, rfl, fun X hX => mem_none hX rfl, fun X hP hS hw hX hR => ?_⟩
  subst hw; try dsimp only at hR
  rw [vc114 X]
  rw [ask_zero4]; intro b0 hb0
  refine a_len hP tyT hl.1 ?_
  rw [ask_lssN]
  refine a_ifD (fun hlt => ?_) fun hge => absurd hpre hge
  refine call_W hX hS (T := Tsu1) (f := 93) rfl (ts, ()) (fun w hw => ⟨⟨_, _, rfl, hl.stp0 (hw.kn.stp0 hX), rfl⟩, by simp only [mx]; omega⟩) fun v w w' h k s su hv => ?_
  subst hv
  rw [ask_aggS]
  exact hR _ _ _ _ fun _ _ => rfl

/-! ### images -/
/-- An answer times an element. -/
def imL (g a : Nat) : Nat := plainL [(a, g)]
theorem imL_lt (g a : Nat) : imL g a < W256 := plainL_lt _ _ (by decide)
/-- A list of one scalar of the call's own. -/
abbrev OwnL (lo : Nat) (w : World) (v : Value) (n : Nat) : Prop := w.ownsRow lo 48 4 v 1 (encS n)
def cIm1 : Contract := fnW (Cods.cons cC1 (Cods.cons cLS Cods.nil)) (fun p _ => p.2.1.length = 1) (fun p w v w' => ∀ a, p.2.1 = [a] → OwnL w.heap.size w' v (imL p.1.1 a))
def Tim1 : Table := (T0.add 113 cZip).add 114 cSumL
theorem keepTim1 : AllKeep Tryz.prog GT Tim1 := (keepT0.add keepsZip).add keepsSSumL
def ann101 : Ann := ⟨[(3, ([5, 13], []))], [], 70, [(113, false), (114, false)], [], none, [], []⟩
def kb101_0 (b0 : Nat) (x4 x5 : Value) : List KB := [⟨b0, true, 93, #[x4, x5]⟩]
theorem vc101 (X : Ctx) (β : Nat → Nat) (x0 x1 : Value) : (run Tryz.prog ann101 101 [.x (.v 0), .x (.v 1)] [] [] 3).den X (env0 [x0, x1] X.w0) 3 β 0 (fun _ _ _ => False) = (
  Ask (rAgg 2 x0) fun x3 =>
  Ask (rSel (aggArr x3) 0 1 false) fun x4 =>
  Ask (rSel (aggArr x3) 1 1 false) fun x5 =>
  AskNew X.w0 fun b0 =>
  Ask (rLen X.P 91 x4) fun x6 =>
  ∃ (I0 : List Value → World → Prop) (μ0 : List Value → World → Nat), (∀ w, KnownV X X.w0 [] (kb101_0 b0 x4 x5) w → I0 [(.slice none 0 0), (J 0)] w) ∧ ∀ x7 x8 w9, I0 [x7, x8] w9 →
    Ask (rBin X.P .lss 3 false false x8 x6) fun x10 =>
    (∃ t, x10 = .bool t) ∧ (x10 = .bool true →
      Ask (rIad X.P 91 x4 x8) fun x11 =>
      Ask (rLoad X w9 [] 49 x11) fun x12 =>
      AskW X w9 [] (kb101_0 b0 x4 x5) false 113 [x1, x12] fun x13 w13 =>
      Ask (rExt X.P x13 0) fun x14 =>
      Ask (rExt X.P x13 1) fun _ =>
      AskW X w13 [] (kb101_0 b0 x4 x5) false 114 [x14] fun x16 w16 =>
      AskO X w16 [] (kb101_0 b0 x4 x5) false (Go.Op.buildSlice 49 1 #[(0, Go.Operand.tmp 25)]) 49 [(25, x16)] fun x17 w17 =>
      AskO X w17 [] (kb101_0 b0 x4 x5) true (appOp (.tmp 23) (.tmp 26) 49) 49 [(23, x7), (26, x17)] fun x18 w18 =>
      Ask (rBin X.P .add 3 false true x8 (J 1)) fun x19 =>
      Again X w18 [] [] fun w => I0 [x18, x19] w ∧ μ0 [x18, x19] w < μ0 [x7, x8] w9) ∧ (x10 = .bool false →
      Ret X w9 [] [] x7)) := by kernel_rfl
theorem keepsIm1 : Keeps1 Tryz.prog GT 101 cIm1 := by
  refine keepsW (T := Tim1) (A := ann101) hMix keepTim1 hGT (calls_of (by kernel_rfl)) (callsW_of (by kernel_rfl)) fun args ⟨⟨g, x⟩, la, _⟩ w0 hrd hpre hg => ?_
  obtain ⟨a, rfl⟩ : ∃ a, la = [a] := by
    match la, hpre with
    | [a], _ => exact ⟨a, rfl⟩
  obtain ⟨_, _, rfl, hcl, xa, _, rfl, ha, rfl⟩ := hrd
  obtain ⟨rows, images, row, rfl, h1, h3, h2⟩ := c1_form hcl
  dsimp only at ha h3 h2
  replace ha : Ls encS okS w0 xa [a] := ha
  refine ⟨[.x (.v 0), .x (.v 1)], [], [], 3, env0 [.agg #[rows, images], xa] w0, fun b => b, 0, rfl, rfl, fun X hX => mem_none hX rfl, fun X hP hS hw hX hR => ?_⟩
  subst hw; try dsimp only at hR
  rw [vc101 X]
  refine a_agg (cs := [rows, images]) rfl (by simp [slAt_one h1, slAt_one h2.1]) ?_
  iterate 2 refine a_sel1 rfl ?_
  intro b0 hb0
  refine a_len hP tyLL h1 ?_
  refine ⟨fun q w => ∃ i o, q = [o, J i] ∧ i ≤ 1 ∧ Kn X w ∧ (i = 0 → o = .slice none 0 0) ∧ (i = 1 → OwnL X.w0.heap.size w o (imL g a)), fun q _ => match q with | [_, i] => 1 - intNat i | _ => 0,
    fun w hw => ⟨0, _, rfl, Nat.zero_le _, hw.kn, fun _ => rfl, fun h => by cases h⟩, ?_⟩
  rintro _ _ w ⟨i, o, he, hi, hk, hi0, hi1⟩
  simp only [List.cons.injEq, and_true] at he
  obtain ⟨rfl, rfl⟩ := he
  rw [ask_lssN]
  refine a_ifD (fun hlt => ?_) fun hge => ?_
  · obtain rfl : i = 0 := by omega
    obtain rfl := hi0 rfl
    have h1' := h1.stp0 (hk.stp0 hX)
    refine a_iadN (i := 0) hP tyLL h1' (by decide) ?_
    refine a_load_one (c := row) hk h1' (by rw [hP]; exact aggLLn) (fun _ _ => List.not_mem_nil) rfl ?_
    refine call_W hX hS (T := Tim1) (f := 113) rfl ([a], [g], ()) (fun w2 hw => ⟨⟨_, _, rfl, ha.stp0 (hw.kn.stp0 hX), _, _, rfl, h3.stp0 (hw.kn.stp0 hX), rfl⟩, by simp [mx], by simp [mx]⟩) fun v w2 w2' hw2 k2 s2 su2 hv => ?_
    obtain ⟨t, rfl, _, ot⟩ := hv.2 rfl
    rw [ask_ext (v := t) rfl, ask_ext (v := J 0) rfl]
    refine call_W hX hS (T := Tim1) (f := 114) rfl ([(a, g)], ()) (fun w3 hw => ⟨⟨_, _, rfl, (⟨(own_slAt ot).stp0 hw.stp, fun t ht => by
      simp only [List.mem_singleton] at ht
      subst ht
      exact ⟨ha.2 a (by simp), h3.2 g (by simp)⟩⟩ : Ls encT okT _ _ _), rfl⟩, (show 1 < 24 by decide)⟩) fun v w3 w3' hw3 k3 s3 su3 hv => ?_
    subst hv
    refine a_build (encS (plainL [(a, g)])).toArray hX hP tyL (by decide) (by decide) (by kernel_rfl) rfl (by decide) fun q w4 w4' hw4 k4 s4 su4 o4 => ?_
    refine a_append (v := .slice none 0 0) (n := 0) (m := 1) (base := w4.heap.size) hX hP tyL rfl rfl rfl (by decide) hw4.sz0 s4.size (World.ownsRow_nil _ _ _ _) (fun w5 hw5 => (own_slAt o4).stp0 hw5.stp) rfl (fun c hc => List.all_eq_true.1 (one_encS _) c hc) (fun _ h => by cases h) (fun _ _ _ h => by cases h) (by decide) (by decide) fun o' w5 w5' hw5 k5 s5 su5 o5 _ => ?_
    rw [ask_succ (by decide)]
    intro w6 hw6
    exact ⟨⟨1, o', rfl, by decide, hw6.kn, (fun h => by cases h), fun _ => own_mono (own_stp0 o5 hw6.stp) hw4.sz0⟩, by simp [intNat]⟩
  · obtain rfl : i = 1 := by omega
    refine hR _ _ _ _ fun w2 hw2 a' e => ?_
    simp only [List.cons.injEq, and_true] at e
    subst e
    exact own_stp0 (hi1 rfl) hw2.stp
#print axioms keepsIm1

/-! ### first -/
/-- A nonce, or an answer and its challenge. -/
def MsL (w : World) (v : Value) (p : (Nat × Nat) × Option Nat × Nat) : Prop :=
  match p.2.1 with
  | none => ∃ rows images ans, v = .iface 162 (.agg #[rows, images, ans]) ∧ cC1.rd w (.agg #[rows, images]) p.1 ∧ cLS.rd w ans [p.2.2]
  | some c => ∃ rows images ans, v = .iface 165 (.agg #[rows, images, U (lb c 0), U (lb c 1), U (lb c 2), U (lb c 3), ans]) ∧ cC1.rd w (.agg #[rows, images]) p.1 ∧ okS c ∧ cLS.rd w ans [p.2.2]
def cMsL : Cod ((Nat × Nat) × Option Nat × Nat) := ⟨MsL, fun w v ⟨q, oc, a⟩ ⟨q', oc', a'⟩ h k => by
  cases oc with
  | none =>
    obtain ⟨rows, images, ans, e, h1, h3⟩ := h
    cases oc' with
    | none =>
      obtain ⟨rows', images', ans', e', k1, k3⟩ := k
      dsimp only at e h1 h3 e' k1 k3
      rw [e] at e'
      simp only [Value.iface.injEq, Value.agg.injEq, true_and] at e'
      have e1 := congrArg Array.toList e'
      simp only [List.cons.injEq, and_true] at e1
      obtain ⟨rfl, rfl, rfl⟩ := e1
      have := cLS.inj _ _ _ _ h3 k3
      simp only [List.cons.injEq, and_true] at this
      rw [cC1.inj _ _ _ _ h1 k1, this]
    | some c' =>
      obtain ⟨rows', images', ans', e', _⟩ := k
      rw [e] at e'
      simp at e'
  | some c =>
    obtain ⟨rows, images, ans, e, h1, h2, h3⟩ := h
    cases oc' with
    | none =>
      obtain ⟨rows', images', ans', e', _⟩ := k
      rw [e] at e'
      simp at e'
    | some c' =>
      obtain ⟨rows', images', ans', e', k1, k2, k3⟩ := k
      dsimp only at e h1 h2 h3 e' k1 k2 k3
      rw [e] at e'
      simp only [Value.iface.injEq, Value.agg.injEq, true_and] at e'
      have e1 := congrArg Array.toList e'
      simp only [List.cons.injEq, and_true] at e1
      obtain ⟨rfl, rfl, l0, l1, l2, l3, rfl⟩ := e1
      have hc : c = c' := S_inj h2 k2 (by show Value.agg #[_, _, _, _] = Value.agg #[_, _, _, _]; rw [l0, l1, l2, l3])
      have := cLS.inj _ _ _ _ h3 k3
      simp only [List.cons.injEq, and_true] at this
      rw [cC1.inj _ _ _ _ h1 k1, this, hc]⟩
/-- The first message. -/
def firL (p : (Nat × Nat) × Option Nat × Nat) : Nat :=
  match p.2.1 with
  | none => imL p.1.1 p.2.2
  | some c => (imL p.1.1 p.2.2 + p.1.2 * subL 0 (c % lN) % lN) % lN
theorem missL (x : Value) (w : World) : (Instr.typeAssert (.iface 165 x) 183 162 true).run Tryz.prog w = .ok (.tuple #[.agg #[.slice none 0 0, .slice none 0 0, .slice none 0 0], .bool false]) w := by kernel_rfl
theorem hitL (x : Value) (w : World) : (Instr.typeAssert (.iface 165 x) 183 165 true).run Tryz.prog w = .ok (.tuple #[x, .bool true]) w := by kernel_rfl
theorem hitLf (x : Value) (w : World) : (Instr.typeAssert (.iface 162 x) 183 162 true).run Tryz.prog w = .ok (.tuple #[x, .bool true]) w := by kernel_rfl
theorem makeIMl (x : Value) (w : World) : (Instr.makeInterface 165 x).run Tryz.prog w = .ok (.iface 165 x) w := by kernel_rfl
theorem makeIFl (x : Value) (w : World) : (Instr.makeInterface 162 x).run Tryz.prog w = .ok (.iface 162 x) w := by kernel_rfl
def cFir1 : Contract := fnW (Cods.cons cMsL Cods.nil) (fun _ _ => True) (fun p w v w' => OwnL w.heap.size w' v (firL p.1))
def Tfl1 : Table := (((T0.add 101 cIm1).add 50 cNegS).add 188 cMulS).add 23 cAddS
theorem keepTfl1 : AllKeep Tryz.prog GT Tfl1 := (((keepT0.add keepsIm1).add keepsNeg).add keepsGTimes).add keepsGAdd
def ann84 : Ann := ⟨[(9, ([29], []))], [50], 70, [(101, false)], [7], none, [], []⟩
def kb84_0 (b0 : Nat) (x6 x7 x8 : Value) : List KB := [⟨b0, true, 162, #[x6, x7, x8]⟩]
def kb84_1 (b0 : Nat) (x9 x10 x11 x12 x13 x14 x15 : Value) : List KB := [⟨b0, true, 165, #[x9, x10, x11, x12, x13, x14, x15]⟩]
def kb84_2 (b0 b1 : Nat) (x9 x10 x11 x12 x13 x14 x15 x24 : Value) : List KB := [⟨b0, true, 165, #[x9, x10, x11, x12, x13, x14, x15]⟩, ⟨b1, true, 48, (aggArr x24)⟩]
theorem vc84 (X : Ctx) (β : Nat → Nat) (x0 : Value) : (run Tryz.prog ann84 84 [.x (.v 0)] [] [] 2).den X (env0 [x0] X.w0) 2 β 0 (fun _ _ _ => False) = (
  Ask (rGen X.P (Go.Op.typeAssert (Go.Operand.tmp 8) 183 162 Bool.true) 0 [(8, x0)]) fun x2 =>
  Ask (rExt X.P x2 1) fun x3 =>
  Ask (rExt X.P x2 0) fun x4 =>
  (∃ t, x3 = .bool t) ∧ (x3 = .bool true →
    AskNew X.w0 fun b0 =>
    Ask (rAgg 3 x4) fun x5 =>
    Ask (rSel (aggArr x5) 0 1 false) fun x6 =>
    Ask (rSel (aggArr x5) 1 1 false) fun x7 =>
    Ask (rSel (aggArr x5) 2 1 false) fun x8 =>
    AskW X X.w0 [b0] (kb84_0 b0 x6 x7 x8) false 101 [(.agg #[x6, x7]), x8] fun x9 w9 =>
    Ret X w9 [] [] x9) ∧ (x3 = .bool false →
    Ask (rGen X.P (Go.Op.typeAssert (Go.Operand.tmp 8) 183 165 Bool.true) 0 [(8, x0)]) fun x5 =>
    Ask (rExt X.P x5 1) fun x6 =>
    Ask (rExt X.P x5 0) fun x7 =>
    (∃ t, x6 = .bool t) ∧ (x6 = .bool true →
      AskNew X.w0 fun b0 =>
      Ask (rAgg 7 x7) fun x8 =>
      Ask (rSel (aggArr x8) 0 1 false) fun x9 =>
      Ask (rSel (aggArr x8) 1 1 false) fun x10 =>
      Ask (rSel (aggArr x8) 2 1 false) fun x11 =>
      Ask (rSel (aggArr x8) 3 1 false) fun x12 =>
      Ask (rSel (aggArr x8) 4 1 false) fun x13 =>
      Ask (rSel (aggArr x8) 5 1 false) fun x14 =>
      Ask (rSel (aggArr x8) 6 1 false) fun x15 =>
      AskW X X.w0 [b0] (kb84_1 b0 x9 x10 x11 x12 x13 x14 x15) false 101 [(.agg #[x9, x10]), x15] fun x16 w16 =>
      Ask (rLen X.P 49 x10) fun x17 =>
      ∃ (I0 : List Value → World → Prop) (μ0 : List Value → World → Nat), (∀ w, KnownV X w16 [] (kb84_1 b0 x9 x10 x11 x12 x13 x14 x15) w → I0 [(J 0)] w) ∧ ∀ x18 w19, I0 [x18] w19 →
        Ask (rBin X.P .lss 3 false false x18 x17) fun x20 =>
        (∃ t, x20 = .bool t) ∧ (x20 = .bool true →
          Ask (rIad X.P 49 x10 x18) fun x21 =>
          Ask (rLoad X w19 [] 48 x21) fun x22 =>
          Ask (rAgg 4 (.agg #[(U 0), (U 0), (U 0), (U 0)])) fun _ =>
          AskNew w19 fun b1 =>
          Ask (rAgg 4 x22) fun x24 =>
          Ask (rIad X.P 49 x16 x18) fun x25 =>
          Ask (rLoad X w19 [b1] 48 x25) fun x26 =>
          Ask (rGen X.P (Go.Op.makeInterface 48 (Go.Operand.tmp 39)) 20 [(39, x26)]) fun x27 =>
          Ask (rGen X.P (Go.Op.makeInterface 48 (Go.Operand.tmp 41)) 20 [(41, x24)]) fun x28 =>
          AskF X 50 [(.agg #[x11, x12, x13, x14])] fun x29 =>
          AskI X x28 "Times" [x29] fun x30 =>
          AskI X x27 "Add" [x30] fun x31 =>
          Ask (rIad X.P 49 x16 x18) fun x32 =>
          AskO X w19 [b1] (kb84_2 b0 b1 x9 x10 x11 x12 x13 x14 x15 x24) true (Go.Op.store 48 (Go.Operand.tmp 48) (Go.Operand.tmp 47)) 0 [(48, x32), (47, x31)] fun _ w33 =>
          Ask (rBin X.P .add 3 false true x18 (J 1)) fun x34 =>
          Again X w33 [] [] fun w => I0 [x34] w ∧ μ0 [x34] w < μ0 [x18] w19) ∧ (x20 = .bool false →
          Ret X w19 [] [] x16)) ∧ (x6 = .bool false →
      Ret X X.w0 [] [] (.slice none 0 0)))) := by kernel_rfl
theorem keepsFir1 : Keeps1 Tryz.prog GT 84 cFir1 := by
  refine keepsW (T := Tfl1) (A := ann84) hMix keepTfl1 hGT (calls_of (by kernel_rfl)) (callsW_of (by kernel_rfl)) fun args ⟨⟨⟨g, x⟩, oc, a⟩, _⟩ w0 hrd hpre hg => ?_
  obtain ⟨v0, _, rfl, hm, rfl⟩ := hrd
  dsimp only at hm
  cases oc with
  | none =>
    obtain ⟨rows, images, ans, rfl, hcl, ha⟩ := hm
    dsimp only at hcl ha
    obtain ⟨_, _, row, e, h1, h3, h2⟩ := c1_form hcl
    simp only [Value.agg.injEq] at e
    have e1 := congrArg Array.toList e
    simp only [List.cons.injEq, and_true] at e1
    obtain ⟨rfl, rfl⟩ := e1
    replace ha : Ls encS okS w0 ans [a] := ha
    refine ⟨[.x (.v 0)], [], [], 2, env0 [.iface 162 (.agg #[rows, images, ans])] w0, fun b => b, 0, rfl, rfl, fun X hX => mem_none hX rfl, fun X hP hS hw hX hR => ?_⟩
    subst hw; try dsimp only at hR
    rw [vc84 X]
    rw [ask_ta (by rw [hP]; exact hitLf _), ask_ext (v := .bool true) rfl, ask_ext (v := .agg #[rows, images, ans]) rfl]
    refine a_if (fun _ => ?_) fun h => by cases h
    intro b0 hb0
    refine a_agg (cs := [rows, images, ans]) rfl (by simp [slAt_one h1, slAt_one h2.1, slAt_one ha.1]) ?_
    iterate 3 refine a_sel1 rfl ?_
    refine call_W hX hS (T := Tfl1) (f := 101) rfl ((g, x), [a], ()) (fun w hw => ⟨⟨_, _, rfl, cC1_stable _ _ _ _ (hw.kn.stp0 hX) hcl, _, _, rfl, ha.stp0 (hw.kn.stp0 hX), rfl⟩, rfl⟩) fun v w1 w1' hw1 k1 s1 su1 hv => ?_
    exact hR _ _ _ _ fun w2 hw2 => own_mono (own_stp0 (hv a rfl) hw2.stp) hw1.sz0
  | some c =>
    obtain ⟨rows, images, ans, rfl, hcl, hc, ha⟩ := hm
    dsimp only at hcl ha
    obtain ⟨_, _, row, e, h1, h3, h2⟩ := c1_form hcl
    simp only [Value.agg.injEq] at e
    have e1 := congrArg Array.toList e
    simp only [List.cons.injEq, and_true] at e1
    obtain ⟨rfl, rfl⟩ := e1
    replace ha : Ls encS okS w0 ans [a] := ha
    have hx : okS x := h2.2 x (by simp)
    refine ⟨[.x (.v 0)], [], [], 2, env0 [.iface 165 (.agg #[rows, images, U (lb c 0), U (lb c 1), U (lb c 2), U (lb c 3), ans])] w0, fun b => b, 0, rfl, rfl, fun X hX => mem_none hX rfl, fun X hP hS hw hX hR => ?_⟩
    subst hw; try dsimp only at hR
    rw [vc84 X]
    rw [ask_ta (by rw [hP]; exact missL _), ask_ext (v := .bool false) rfl, ask_ext (v := .agg #[.slice none 0 0, .slice none 0 0, .slice none 0 0]) rfl]
    refine a_if (fun h => by cases h) fun _ => ?_
    rw [ask_ta (by rw [hP]; exact hitL _), ask_ext (v := .bool true) rfl, ask_ext (v := .agg #[rows, images, U (lb c 0), U (lb c 1), U (lb c 2), U (lb c 3), ans]) rfl]
    refine a_if (fun _ => ?_) fun h => by cases h
    intro b0 hb0
    refine a_agg (cs := [rows, images, U (lb c 0), U (lb c 1), U (lb c 2), U (lb c 3), ans]) rfl (by simp only [List.all_cons, slAt_one h1, slAt_one h2.1, slAt_one ha.1, List.all_nil, Bool.and_true, Bool.true_and]; rfl) ?_
    iterate 7 refine a_sel1 rfl ?_
    refine call_W hX hS (T := Tfl1) (f := 101) rfl ((g, x), [a], ()) (fun w hw => ⟨⟨_, _, rfl, cC1_stable _ _ _ _ (hw.kn.stp0 hX) hcl, _, _, rfl, ha.stp0 (hw.kn.stp0 hX), rfl⟩, rfl⟩) fun v w1 w1' hw1 k1 s1 su1 hv => ?_
    replace hv : OwnL w1.heap.size w1' v (imL g a) := hv a rfl
    have lo0 : b0 < w1.heap.size := hw1.low (by simp [kb84_1])
    have z0 := hw1.sz0
    refine a_len (n := 1) hP tyL h2.1 ?_
    refine ⟨fun q w => ∃ i, q = [J i] ∧ i ≤ 1 ∧ Kn X w ∧ (i = 0 → OwnL w1.heap.size w v (imL g a)) ∧ (i = 1 → OwnL w1.heap.size w v ((imL g a + x * subL 0 (c % lN) % lN) % lN)), fun q _ => match q with | [i] => 1 - intNat i | _ => 0,
      fun w hw => ⟨0, rfl, Nat.zero_le _, hw.kn, fun _ => own_stp0 hv hw.stp, fun h => by cases h⟩, ?_⟩
    rintro _ w ⟨i, he, hi, hk, hi0, hi1⟩
    simp only [List.cons.injEq, and_true] at he
    subst he
    rw [ask_lssN]
    refine a_ifD (fun hlt => ?_) fun hge => ?_
    · obtain rfl : i = 0 := Nat.lt_one_iff.1 hlt
      have q1 := hi0 rfl
      refine ld_L (l := [x]) hP hk (h2.1.stp0 (hk.stp0 hX)) rfl rfl (by simp) (fun _ _ => List.not_mem_nil) ?_
      rw [ask_zero4]; intro b1 hb1
      rw [ask_aggS]
      refine ld_L (l := [imL g a]) hP hk (own_slAt q1) (by simp) rfl (by simp) (own_off q1 (all1 hb1)) ?_
      rw [ask_makeI (by rw [hP]; exact makeIL _), ask_makeI (by rw [hP]; exact makeIL _), foldSg]
      refine call_PE hS (T := Tfl1) (f := 50) rfl c hc ?_
      dsimp only
      refine call_I hP hS (T := Tfl1) (f := 188) rfl (x, subL 0 (c % lN)) (methLTimes _ _) ⟨hx, negL_lt c⟩ ?_
      refine call_I hP hS (T := Tfl1) (f := 23) rfl (imL g a, x * subL 0 (c % lN) % lN) (methLAdd _ _) ⟨imL_lt _ _, Nat.lt_trans (Nat.mod_lt _ (by decide)) (by decide)⟩ ?_
      refine a_iadN (i := 0) hP tyL (own_slAt q1) (by decide) ?_
      refine a_store (vs := encS ((imL g a + x * subL 0 (c % lN) % lN) % lN)) hX hP szL rfl rfl rfl rfl (one_encS _) q1 z0 (by decide) (by decide) (own_off q1 (all1 hb1)) (fun w4 hw4 k hg hm => ?_) fun _ w4 w4' hw4 k4 s4 su4 o4 => ?_
      · have hq := q1.lt k hg
        simp only [kb84_2, List.map_cons, List.map_nil, List.mem_cons, List.not_mem_nil, or_false] at hm
        omega
      rw [ask_succ (by decide)]
      intro w5 hw5
      exact ⟨⟨1, rfl, by decide, hw5.kn, (fun h => by cases h), fun _ => own_stp0 o4 hw5.stp⟩, by simp [intNat]⟩
    · obtain rfl : i = 1 := by
        have : ¬ i < 1 := hge
        omega
      exact hR _ _ _ _ fun w2 hw2 => own_mono (own_stp0 (hi1 rfl) hw2.stp) z0
#print axioms keepsFir1

/-! ### same -/
def ann28 : Ann := ⟨[], [8], 70, [], [2, 3], none, [], []⟩
theorem vc28 (X : Ctx) (β : Nat → Nat) (x0 x1 : Value) : (run Tryz.prog ann28 28 [.x (.v 0), .x (.v 1)] [] [] 3).den X (env0 [x0, x1] X.w0) 3 β 0 (fun _ _ _ => False) = (
  Ask (rAgg 4 x0) fun x3 =>
  AskNew X.w0 fun _ =>
  Ask (rAgg 4 x1) fun x4 =>
  AskNew X.w0 fun _ =>
  AskF X 8 [x3, x4] fun x5 =>
  Ret X X.w0 [] [] x5) := by kernel_rfl
def Tls1 : Table := T0.add 8 cSameS
theorem keepTls1 : AllKeep Tryz.prog GT Tls1 := keepT0.add keepsSame
theorem keepsLSame1 : Keeps1 Tryz.prog GT 28 cSameS := by
  refine keepsP (T := Tls1) (A := ann28) inj2 hMix keepTls1 hGT (calls_of (by kernel_rfl)) (callsW_of (by kernel_rfl)) fun ⟨a, b⟩ w0 ⟨ha, hb⟩ _ => ⟨[.x (.v 0), .x (.v 1)], [], [], 3, env0 [S a, S b] w0, fun b => b, 0, rfl, rfl, fun X hX => mem_none hX rfl, fun X hP hS hw hX hR => ?_⟩
  subst hw
  rw [vc28 X]
  dsimp only at ha hb hR
  rw [ask_aggS]; intro _ _; rw [ask_aggS]; intro _ _
  refine call_PE hS (T := Tls1) (f := 8) rfl (a, b) ⟨ha, hb⟩ ?_
  exact hR _ _ _ _ rfl
theorem methLSame (a k : Nat) : Meth Tryz.prog (.iface 48 (S a)) "Same" [S k] 28 [S a, S k] := fun w => by kernel_rfl
def cSam1 : Contract := fnW (Cods.cons cLS (Cods.cons cLS Cods.nil)) (fun p _ => p.1.length = 1 ∧ p.2.1.length = 1) (fun p _ v _ => ∀ a b, p.1 = [a] → p.2.1 = [b] → v = .bool (decide (a % lN = b % lN)))
def Tsm1 : Table := T0.add 28 cSameS
theorem keepTsm1 : AllKeep Tryz.prog GT Tsm1 := keepT0.add keepsLSame1
def ann85 : Ann := ⟨[(2, ([8], []))], [], 70, [], [], none, [], []⟩
theorem vc85 (X : Ctx) (β : Nat → Nat) (x0 x1 : Value) : (run Tryz.prog ann85 85 [.x (.v 0), .x (.v 1)] [] [] 3).den X (env0 [x0, x1] X.w0) 3 β 0 (fun _ _ _ => False) = (
  Ask (rLen X.P 49 x0) fun x3 =>
  ∃ (I0 : List Value → World → Prop) (μ0 : List Value → World → Nat), (∀ w, KnownV X X.w0 [] [] w → I0 [(J 0)] w) ∧ ∀ x4 w5, I0 [x4] w5 →
    Ask (rBin X.P .lss 3 false false x4 x3) fun x6 =>
    (∃ t, x6 = .bool t) ∧ (x6 = .bool true →
      Ask (rIad X.P 49 x0 x4) fun x7 =>
      Ask (rLoad X w5 [] 48 x7) fun x8 =>
      Ask (rGen X.P (Go.Op.makeInterface 48 (Go.Operand.tmp 14)) 20 [(14, x8)]) fun x9 =>
      Ask (rIad X.P 49 x1 x4) fun x10 =>
      Ask (rLoad X w5 [] 48 x10) fun x11 =>
      AskI X x9 "Same" [x11] fun x12 =>
      Ask (rUn X.P .not x12) fun x13 =>
      (∃ t, x13 = .bool t) ∧ (x13 = .bool true →
        Ret X w5 [] [] (.bool false)) ∧ (x13 = .bool false →
        Ask (rBin X.P .add 3 false true x4 (J 1)) fun x14 =>
        Again X w5 [] [] fun w => I0 [x14] w ∧ μ0 [x14] w < μ0 [x4] w5)) ∧ (x6 = .bool false →
      Ask (rLen X.P 49 x0) fun x7 =>
      Ask (rLen X.P 49 x1) fun x8 =>
      Ask (rBin X.P .eql 3 false false x7 x8) fun x9 =>
      Ret X w5 [] [] x9)) := by kernel_rfl
theorem keepsSam1 : Keeps1 Tryz.prog GT 85 cSam1 := by
  refine keepsW (T := Tsm1) (A := ann85) hMix keepTsm1 hGT (calls_of (by kernel_rfl)) (callsW_of (by kernel_rfl)) fun args ⟨la, lc, _⟩ w0 hrd hpre hg => ?_
  obtain ⟨a, rfl⟩ : ∃ a, la = [a] := by
    match la, hpre.1 with
    | [a], _ => exact ⟨a, rfl⟩
  obtain ⟨b, rfl⟩ : ∃ a, lc = [a] := by
    match lc, hpre.2 with
    | [a], _ => exact ⟨a, rfl⟩
  obtain ⟨v1, _, rfl, r1, v2, _, rfl, r2, rfl⟩ := hrd
  dsimp only at r1 r2
  replace r1 : Ls encS okS w0 v1 [a] := r1
  replace r2 : Ls encS okS w0 v2 [b] := r2
  refine ⟨[.x (.v 0), .x (.v 1)], [], [], 3, env0 [v1, v2] w0, fun b => b, 0, rfl, rfl, fun X hX => mem_none hX rfl, fun X hP hS hw hX hR => ?_⟩
  subst hw; try dsimp only at hR
  rw [vc85 X]
  have fin : ∀ u ow bl t, t = decide (a % lN = b % lN) → Ret X u ow bl (.bool t) := fun u ow bl t e => hR _ _ _ _ fun _ _ a' b' ea eb => by
    simp only [List.cons.injEq, and_true] at ea eb
    subst ea eb
    rw [e]
  refine a_len (n := 1) hP tyL r1.1 ?_
  refine ⟨fun q w => ∃ i, q = [J i] ∧ i ≤ 1 ∧ Kn X w ∧ (i = 1 → a % lN = b % lN), fun q _ => match q with | [i] => 1 - intNat i | _ => 0, fun w hw => ⟨0, rfl, Nat.zero_le _, hw.kn, fun h => by cases h⟩, ?_⟩
  rintro _ w ⟨i, he, hi, hk, hi1⟩
  simp only [List.cons.injEq, and_true] at he
  subst he
  rw [ask_lssN]
  refine a_ifD (fun hlt => ?_) fun hge => ?_
  · obtain rfl : i = 0 := Nat.lt_one_iff.1 hlt
    refine ld_L (l := [a]) hP hk (r1.1.stp0 (hk.stp0 hX)) rfl rfl (by simp) (fun _ _ => List.not_mem_nil) ?_
    rw [ask_makeI (by rw [hP]; exact makeIL _)]
    refine ld_L (l := [b]) hP hk (r2.1.stp0 (hk.stp0 hX)) rfl rfl (by simp) (fun _ _ => List.not_mem_nil) ?_
    refine call_I hP hS (T := Tsm1) (f := 28) rfl (a, b) (methLSame _ _) ⟨r1.2 a (by simp), r2.2 b (by simp)⟩ ?_
    rw [ask_not]
    refine a_ifN (fun hf => ?_) fun hf => ?_
    · exact fin _ _ _ _ (decide_eq_false hf).symm
    · rw [ask_succ (by decide)]
      intro w3 hw3
      exact ⟨⟨1, rfl, by decide, hw3.kn, fun _ => hf⟩, by simp [intNat]⟩
  · obtain rfl : i = 1 := by
      have : ¬ i < 1 := hge
      omega
    refine a_len (n := 1) hP tyL r1.1 ?_
    refine a_len (n := 1) hP tyL r2.1 ?_
    rw [ask_eqlN, decide_eq_true rfl]
    exact fin _ _ _ _ (decide_eq_true (hi1 rfl)).symm
end Go.Vc
