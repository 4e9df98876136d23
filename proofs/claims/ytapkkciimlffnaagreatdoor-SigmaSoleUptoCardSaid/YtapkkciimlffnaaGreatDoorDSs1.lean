/-
  Claims of one row over lists of scalars (msm.Free): width, fits, Zip, sum, images.
-/
import Derived.Test.YtapkkciimlffnaaGreatDoorDGb3
namespace Go.Vc
open Go Go.Proofs Go.RowKit

/-- A claim of one row: its elements, its image. -/
def cClF : Cod (List (List Nat) × List Nat) := ⟨fun w v p => ∃ rows images row img, v = .agg #[rows, images] ∧ SlAt w rows 1 [row] ∧ SlAt w images 1 [img] ∧ (cLL cLS).rd w row p.1 ∧ cLS.rd w img p.2, fun w v ⟨G, L⟩ ⟨G', L'⟩ ⟨rows, images, row, img, e, h1, h2, h3, h4⟩ ⟨rows', images', row', img', e', k1, k2, k3, k4⟩ => by
  dsimp only at e h1 h2 h3 h4 e' k1 k2 k3 k4
  rw [e] at e'
  simp only [Value.agg.injEq] at e'
  have e1 := congrArg Array.toList e'
  simp only [List.cons.injEq, and_true] at e1
  obtain ⟨rfl, rfl⟩ := e1
  have q1 := (slAt_inj (xs := [row]) (ys := [row']) rfl h1 k1).2
  have q2 := (slAt_inj (xs := [img]) (ys := [img']) rfl h2 k2).2
  simp only [List.cons.injEq, and_true] at q1 q2
  subst q1 q2
  rw [(cLL cLS).inj _ _ _ _ h3 k3, cLS.inj _ _ _ _ h4 k4]⟩
theorem cLLS_stable : (cLL cLS).Stable := cLL_stable cLS_stable
theorem cClF_stable : cClF.Stable := fun _ _ _ _ hs ⟨rows, images, row, img, e, h1, h2, h3, h4⟩ => ⟨rows, images, row, img, e, h1.stp0 hs, h2.stp0 hs, cLLS_stable _ _ _ _ hs h3, cLS_stable _ _ _ _ hs h4⟩
theorem tyLF : ElTy Tryz.prog 26 27 1 24 (.slice none 0 0) := ⟨by kernel_rfl, by kernel_rfl⟩
theorem aggLF : agg? Tryz.prog 27 = some false := by kernel_rfl
theorem tyLLS : ElTy Tryz.prog 151 22 1 24 (.slice none 0 0) := ⟨by kernel_rfl, by kernel_rfl⟩
theorem aggLSs : agg? Tryz.prog 22 = some false := by kernel_rfl

/-! ### width -/
def cWidF : Contract := fnW (Cods.cons cClF Cods.nil) (fun _ _ => True) (fun p _ v _ => v = J p.1.1.length)
def ann81 : Ann := ⟨[(5, ([27], []))], [], 70, [], [], none, [], []⟩
def kb81_0 (b0 : Nat) (x3 x4 : Value) : List KB := [⟨b0, true, 29, #[x3, x4]⟩]
theorem vc81 (X : Ctx) (β : Nat → Nat) (x0 : Value) : (run Tryz.prog ann81 81 [.x (.v 0)] [] [] 2).den X (env0 [x0] X.w0) 2 β 0 (fun _ _ _ => False) = (
  Ask (rAgg 2 x0) fun x2 =>
  Ask (rSel (aggArr x2) 0 1 false) fun x3 =>
  Ask (rSel (aggArr x2) 1 1 false) fun x4 =>
  AskNew X.w0 fun b0 =>
  Ask (rLen X.P 26 x3) fun x5 =>
  Ask (rBin X.P .eql 3 false true x5 (J 0)) fun x6 =>
  AskG [(x6, false)] (rLen X.P 27 x4) fun x7 =>
  AskG [(x6, false)] (rLen X.P 26 x3) fun x8 =>
  AskG [(x6, false)] (rBin X.P .neq 3 false false x7 x8) fun x9 =>
  Ask (rPick x6 (.bool true) x9) fun x10 =>
  (∃ t, x10 = .bool t) ∧ (x10 = .bool true →
    Ret X X.w0 [] [] (J 0)) ∧ (x10 = .bool false →
    Ask (rIad X.P 26 x3 (J 0)) fun x11 =>
    Ask (rLoad X X.w0 [] 27 x11) fun x12 =>
    Ask (rLen X.P 27 x12) fun x13 =>
    Ask (rLen X.P 26 x3) fun x14 =>
    ∃ (I0 : List Value → World → Prop) (μ0 : List Value → World → Nat), (∀ w, KnownV X X.w0 [] (kb81_0 b0 x3 x4) w → I0 [(J 0)] w) ∧ ∀ x15 w16, I0 [x15] w16 →
      Ask (rBin X.P .lss 3 false false x15 x14) fun x17 =>
      (∃ t, x17 = .bool t) ∧ (x17 = .bool true →
        Ask (rIad X.P 26 x3 x15) fun x18 =>
        Ask (rLoad X w16 [] 27 x18) fun x19 =>
        Ask (rLen X.P 27 x19) fun x20 =>
        Ask (rBin X.P .neq 3 false false x20 x13) fun x21 =>
        (∃ t, x21 = .bool t) ∧ (x21 = .bool true →
          Ret X w16 [] [] (J 0)) ∧ (x21 = .bool false →
          Ask (rBin X.P .add 3 false true x15 (J 1)) fun x22 =>
          Again X w16 [] [] fun w => I0 [x22] w ∧ μ0 [x22] w < μ0 [x15] w16)) ∧ (x17 = .bool false →
        Ret X w16 [] [] x13))) := by kernel_rfl
theorem keepsWidF : Keeps1 Tryz.prog GT 81 cWidF := by
  refine keepsW (T := T0) (A := ann81) hMix keepT0 hGT (calls_of (by kernel_rfl)) (callsW_of (by kernel_rfl)) fun args ⟨⟨G, L⟩, _⟩ w0 hrd hpre hg => ?_
  obtain ⟨_, _, rfl, ⟨rows, images, row, img, rfl, h1, h2, ⟨vs, h3, hvl, hve⟩, h4⟩, rfl⟩ := hrd
  dsimp only at h3 hvl hve h4
  refine ⟨[.x (.v 0)], [], [], 2, env0 [.agg #[rows, images]] w0, fun b => b, 0, rfl, rfl, fun X hX => mem_none hX rfl, fun X hP hS hw hX hR => ?_⟩
  subst hw; try dsimp only at hR
  rw [vc81 X]
  refine a_agg (cs := [rows, images]) rfl (by simp [slAt_one h1, slAt_one h2]) ?_
  iterate 2 refine a_sel1 rfl ?_
  intro b0 hb0
  refine a_len hP tyLF h1 ?_
  rw [ask_eqlN, decide_eq_false (by decide)]
  refine a_G_on condsV1 (a_len hP tyFree h2 ?_)
  refine a_G_on condsV1 (a_len hP tyLF h1 ?_)
  refine a_G_on condsV1 ?_
  rw [ask_neqN, decide_eq_true rfl, Bool.not_true, ask_pickF]
  refine a_if (fun h => by cases h) fun _ => ?_
  refine a_iadN (i := 0) hP tyLF h1 (by decide) ?_
  refine a_load_one (c := row) (kn0 X) h1 (by rw [hP]; exact aggLF) (fun _ _ => List.not_mem_nil) rfl ?_
  refine a_len hP tyFree h3 ?_
  refine a_len hP tyLF h1 ?_
  refine ⟨fun a w => ∃ i, a = [J i] ∧ i ≤ 1 ∧ Kn X w, fun a _ => match a with | [i] => 1 - intNat i | _ => 0, fun w hw => ⟨0, rfl, Nat.zero_le _, hw.kn⟩, ?_⟩
  rintro _ w ⟨i, he, hi, hk⟩
  simp only [List.cons.injEq, and_true] at he
  subst he
  rw [ask_lssN]
  refine a_ifD (fun hlt => ?_) fun hge => ?_
  · obtain rfl : i = 0 := by omega
    have h1' := h1.stp0 (hk.stp0 hX)
    refine a_iadN (i := 0) hP tyLF h1' (by decide) ?_
    refine a_load_one (c := row) hk h1' (by rw [hP]; exact aggLF) (fun _ _ => List.not_mem_nil) rfl ?_
    refine a_len hP tyFree h3 ?_
    rw [ask_neqN, decide_eq_true rfl, Bool.not_true]
    refine a_if (fun h => by cases h) fun _ => ?_
    rw [ask_succ (by decide)]
    intro w2 hw2
    exact ⟨⟨1, rfl, by decide, hw2.kn⟩, by simp [intNat]⟩
  · exact hR _ _ _ _ fun _ _ => rfl

/-! ### fits -/
def cFitF : Contract := fnW (Cods.cons cClF (Cods.cons (cLL cLS) Cods.nil)) (fun p _ => ∃ a, p.2.1 = [a] ∧ a.length = p.1.1.length ∧ 0 < a.length) (fun _ _ v _ => v = .bool true)
def Twf : Table := T0.add 81 cWidF
theorem keepTwf : AllKeep Tryz.prog GT Twf := keepT0.add keepsWidF
def ann34 : Ann := ⟨[(3, ([12], []))], [], 70, [(81, false)], [], none, [], []⟩
def kb34_0 (b0 : Nat) (x4 x5 : Value) : List KB := [⟨b0, true, 29, #[x4, x5]⟩]
theorem vc34 (X : Ctx) (β : Nat → Nat) (x0 x1 : Value) : (run Tryz.prog ann34 34 [.x (.v 0), .x (.v 1)] [] [] 3).den X (env0 [x0, x1] X.w0) 3 β 0 (fun _ _ _ => False) = (
  Ask (rAgg 2 x0) fun x3 =>
  Ask (rSel (aggArr x3) 0 1 false) fun x4 =>
  Ask (rSel (aggArr x3) 1 1 false) fun x5 =>
  AskNew X.w0 fun b0 =>
  AskW X X.w0 [] (kb34_0 b0 x4 x5) false 81 [(.agg #[x4, x5])] fun x6 w6 =>
  Ask (rLen X.P 151 x1) fun x7 =>
  ∃ (I0 : List Value → World → Prop) (μ0 : List Value → World → Nat), (∀ w, KnownV X w6 [] (kb34_0 b0 x4 x5) w → I0 [(J 0)] w) ∧ ∀ x8 w9, I0 [x8] w9 →
    Ask (rBin X.P .lss 3 false false x8 x7) fun x10 =>
    (∃ t, x10 = .bool t) ∧ (x10 = .bool true →
      Ask (rIad X.P 151 x1 x8) fun x11 =>
      Ask (rLoad X w9 [] 22 x11) fun x12 =>
      Ask (rLen X.P 22 x12) fun x13 =>
      Ask (rBin X.P .neq 3 false false x13 x6) fun x14 =>
      (∃ t, x14 = .bool t) ∧ (x14 = .bool true →
        Ret X w9 [] [] (.bool false)) ∧ (x14 = .bool false →
        Ask (rBin X.P .add 3 false true x8 (J 1)) fun x15 =>
        Again X w9 [] [] fun w => I0 [x15] w ∧ μ0 [x15] w < μ0 [x8] w9)) ∧ (x10 = .bool false →
      Ask (rBin X.P .gtr 3 false true x6 (J 0)) fun x11 =>
      Ret X w9 [] [] x11)) := by kernel_rfl
theorem keepsFitF : Keeps1 Tryz.prog GT 34 cFitF := by
  refine keepsW (T := Twf) (A := ann34) hMix keepTwf hGT (calls_of (by kernel_rfl)) (callsW_of (by kernel_rfl)) fun args ⟨⟨G, L⟩, as1, _⟩ w0 hrd hpre hg => ?_
  obtain ⟨_, _, rfl, hcl, x, _, rfl, ⟨ys, hy, hyl, hye⟩, rfl⟩ := hrd
  obtain ⟨a, e, hal, ha0⟩ := hpre
  dsimp only at hcl hy hyl hye e hal
  subst e
  obtain ⟨rows, images, row, img, rfl, h1, h2, h3, h4⟩ := hcl
  have hcl : cClF.rd w0 (.agg #[rows, images]) (G, L) := ⟨rows, images, row, img, rfl, h1, h2, h3, h4⟩
  obtain ⟨y, rfl⟩ : ∃ y, ys = [y] := by
    match ys, hyl with
    | [y], _ => exact ⟨y, rfl⟩
  have hya := hye 0 y a rfl rfl
  refine ⟨[.x (.v 0), .x (.v 1)], [], [], 3, env0 [.agg #[rows, images], x] w0, fun b => b, 0, rfl, rfl, fun X hX => mem_none hX rfl, fun X hP hS hw hX hR => ?_⟩
  subst hw; try dsimp only at hR
  rw [vc34 X]
  refine a_agg (cs := [rows, images]) rfl (by simp [slAt_one h1, slAt_one h2]) ?_
  iterate 2 refine a_sel1 rfl ?_
  intro b0 hb0
  refine call_W hX hS (T := Twf) (f := 81) rfl ((G, L), ()) (fun w hw => ⟨⟨_, _, rfl, cClF_stable _ _ _ _ (hw.kn.stp0 hX) hcl, rfl⟩, trivial⟩) fun v w1 w1' hw1 k1 s1 su1 hv => ?_
  subst hv
  refine a_len hP tyLLS hy ?_
  refine ⟨fun a w => ∃ i, a = [J i] ∧ i ≤ 1 ∧ Kn X w, fun a _ => match a with | [i] => 1 - intNat i | _ => 0, fun w hw => ⟨0, rfl, Nat.zero_le _, hw.kn⟩, ?_⟩
  rintro _ w ⟨i, he, hi, hk⟩
  simp only [List.cons.injEq, and_true] at he
  subst he
  rw [ask_lssN]
  refine a_ifD (fun hlt => ?_) fun hge => ?_
  · obtain rfl : i = 0 := by simpa using hlt
    have hy' := hy.stp0 (hk.stp0 hX)
    refine a_iadN (i := 0) hP tyLLS hy' Nat.zero_lt_one ?_
    refine a_load_one (c := y) hk hy' (by rw [hP]; exact aggLSs) (fun _ _ => List.not_mem_nil) rfl ?_
    refine a_len hP tyS' (show Ls encS okS X.w0 y a from hya).1 ?_
    rw [ask_neqN, decide_eq_true hal, Bool.not_true]
    refine a_if (fun h => by cases h) fun _ => ?_
    rw [ask_succ (by decide)]
    intro w2 hw2
    exact ⟨⟨1, rfl, by decide, hw2.kn⟩, by simp [intNat]⟩
  · rw [ask_gtrN, decide_eq_true (by dsimp only; omega)]
    exact hR _ _ _ _ fun _ _ => rfl

/-! ### Zip -/
theorem makeTF (n : Nat) : (madeCells (Value.agg #[U 0, U 0, U 0, U 0, .slice none 0 0]).cells (n * 5)).toList = (List.replicate n ((0, .slice none 0 0) : Nat × Value)).flatMap enc5 := made_enc (α := Nat × Value) (enc := enc5) (a := (0, .slice none 0 0)) (s := 5) (by kernel_rfl) rfl (by decide) n
theorem put_next {α : Type} (l : List α) (d : α) (i k : Nat) (hi : i < l.length) : (l.take i ++ List.replicate (k + 1) d).set i l[i] = l.take (i + 1) ++ List.replicate k d := by
  rw [List.set_append, if_neg (by simp; omega), List.length_take, Nat.min_eq_left (by omega), Nat.sub_self, List.replicate_succ, List.set_cons_zero, List.take_add_one, List.getElem?_eq_getElem hi]
  show _ = (l.take i ++ [l[i]]) ++ _
  rw [List.append_assoc]
  rfl
def cZipF : Contract := fnW (Cods.cons cLS (Cods.cons (cLL cLS) Cods.nil)) (fun p _ => p.1.length = p.2.1.length ∧ p.1.length ≤ 4096) (fun p _ v w' => ∃ t, v = .tuple #[t, J 0] ∧ cTF.rd w' t (List.zip p.1 p.2.1))
def ann98 : Ann := ⟨[(5, ([19], []))], [], 70, [], [8], none, [], []⟩
def kb98_0 (b0 : Nat) (x15 : Value) : List KB := [⟨b0, true, 25, (aggArr x15)⟩]
theorem vc98 (X : Ctx) (β : Nat → Nat) (x0 x1 : Value) : (run Tryz.prog ann98 98 [.x (.v 0), .x (.v 1)] [] [] 3).den X (env0 [x0, x1] X.w0) 3 β 0 (fun _ _ _ => False) = (
  Ask (rLen X.P 22 x0) fun x3 =>
  Ask (rLen X.P 27 x1) fun x4 =>
  Ask (rBin X.P .neq 3 false false x3 x4) fun x5 =>
  (∃ t, x5 = .bool t) ∧ (x5 = .bool true →
    Ret X X.w0 [] [] (.tuple #[(.slice none 0 0), (J 2)])) ∧ (x5 = .bool false →
    Ask (rLen X.P 22 x0) fun x6 =>
    AskO X X.w0 [] [] false (Go.Op.makeSlice 178 (Go.Operand.tmp 15) (Go.Operand.tmp 15)) 178 [(15, x6), (15, x6)] fun x7 w7 =>
    Ask (rLen X.P 22 x0) fun x8 =>
    ∃ (I0 : List Value → World → Prop) (μ0 : List Value → World → Nat), (∀ w, KnownV X w7 [] [] w → I0 [(J 0)] w) ∧ ∀ x9 w10, I0 [x9] w10 →
      Ask (rBin X.P .lss 3 false false x9 x8) fun x11 =>
      (∃ t, x11 = .bool t) ∧ (x11 = .bool true →
        Ask (rIad X.P 22 x0 x9) fun x12 =>
        Ask (rLoad X w10 [] 25 x12) fun x13 =>
        Ask (rAgg 4 (.agg #[(U 0), (U 0), (U 0), (U 0)])) fun _ =>
        AskNew w10 fun b0 =>
        Ask (rAgg 4 x13) fun x15 =>
        Ask (rIad X.P 27 x1 x9) fun x16 =>
        Ask (rLoad X w10 [b0] 32 x16) fun x17 =>
        Ask (rAgg 4 x15) fun x18 =>
        Ask (rSel (aggArr x18) 0 1 false) fun x19 =>
        Ask (rSel (aggArr x18) 1 1 false) fun x20 =>
        Ask (rSel (aggArr x18) 2 1 false) fun x21 =>
        Ask (rSel (aggArr x18) 3 1 false) fun x22 =>
        Ask (rAgg 1 x17) fun x23 =>
        Ask (rSel (aggArr x23) 0 1 false) fun x24 =>
        Ask (rIad X.P 178 x7 x9) fun x25 =>
        AskO X w10 [b0] (kb98_0 b0 x15) true (Go.Op.store 198 (Go.Operand.tmp 32) (Go.Operand.tmp 31)) 0 [(32, x25), (31, (.agg #[x19, x20, x21, x22, x24]))] fun _ w26 =>
        Ask (rBin X.P .add 3 false true x9 (J 1)) fun x27 =>
        Again X w26 [] [] fun w => I0 [x27] w ∧ μ0 [x27] w < μ0 [x9] w10) ∧ (x11 = .bool false →
        Ret X w10 [] [] (.tuple #[x7, (J 0)])))) := by kernel_rfl
theorem keepsZipF : Keeps1 Tryz.prog GT 98 cZipF := by
  refine keepsW (T := T0) (A := ann98) hMix keepT0 hGT (calls_of (by kernel_rfl)) (callsW_of (by kernel_rfl)) fun args ⟨la, G, _⟩ w0 hrd hpre hg => ?_
  obtain ⟨xa, _, rfl, ha, r, _, rfl, ⟨vs, hg, hvl, hve⟩, rfl⟩ := hrd
  dsimp only at ha hg hvl hve hpre
  replace ha : Ls encS okS w0 xa la := ha
  obtain ⟨hlen, hmax⟩ := hpre
  refine ⟨[.x (.v 0), .x (.v 1)], [], [], 3, env0 [xa, r] w0, fun b => b, 0, rfl, rfl, fun X hX => mem_none hX rfl, fun X hP hS hw hX hR => ?_⟩
  subst hw; try dsimp only at hR
  rw [vc98 X]
  refine a_len hP tyS' ha.1 ?_
  refine a_len hP tyFree hg ?_
  rw [ask_neqN, decide_eq_true hlen, Bool.not_true]
  refine a_if (fun h => by cases h) fun _ => ?_
  refine a_len hP tyS' ha.1 ?_
  refine a_make (n := la.length) hX hP tyTF rfl rfl (by omega) (by simp only [maxLen]; omega) fun q w7 w7' h7 k7 s7 su7 o7 => ?_
  rw [makeTF] at o7
  refine a_len hP tyS' ha.1 ?_
  have zl : (List.zip la vs).length = la.length := by simp; omega
  refine ⟨fun a w => ∃ i, a = [J i] ∧ i ≤ la.length ∧ w.ownsRow w7.heap.size 198 5 (.slice (some ⟨q, 0, none⟩) la.length la.length) la.length (((List.zip la vs).take i ++ List.replicate (la.length - i) ((0, .slice none 0 0) : Nat × Value)).flatMap enc5) ∧ Kn X w, fun a _ => match a with | [i] => la.length - intNat i | _ => 0,
    fun w hw => ⟨0, rfl, Nat.zero_le _, by simpa using own_stp0 o7 hw.stp, hw.kn⟩, ?_⟩
  rintro _ w ⟨i, he, hi, ho, hk⟩
  simp only [List.cons.injEq, and_true] at he
  subst he
  rw [ask_lssN]
  refine a_ifD (fun hlt => ?_) fun hge => ?_
  · have hl' := ha.1.stp0 (hk.stp0 hX)
    have hg' := hg.stp0 (hk.stp0 hX)
    refine a_iadN hP tyS' hl' hlt ?_
    refine a_load_agg (cs := encS la[i]) hk hl' (hP ▸ aggS) (by rw [hP]; exact szS) (fun _ _ => List.not_mem_nil) (by simp [encS]) (flat_at encS_len la i _ (List.getElem?_eq_getElem hlt)) ?_
    rw [agg_encS, ask_zero4]; intro b0 hb0
    rw [ask_aggS]
    have hv : vs[i]? = some (vs[i]'(by omega)) := List.getElem?_eq_getElem (by omega)
    have hGi : G[i]? = some (G[i]'(by omega)) := List.getElem?_eq_getElem (by omega)
    have one_v : (vs[i]'(by omega)).oneCell' = true := slAt_one (show Ls encS okS X.w0 _ _ from hve i _ _ hv hGi).1
    refine a_iadN hP tyFree hg' (by omega) ?_
    refine a_load_agg (cs := [vs[i]'(by omega)]) hk hg' (by rw [hP]; exact aggFrG) (by rw [hP]; exact szFrG) (slAt_off hg' (by omega) (all1 hb0)) (by simp) (fun j c hj => by
      match j, hj with
      | 0, hj => simp only [List.getElem?_cons_zero, Option.some.injEq] at hj; subst hj; rw [Nat.mul_one, Nat.add_zero]; exact hv) ?_
    rw [ask_aggS, ask_selS0, ask_selS1, ask_selS2, ask_selS3]
    refine a_agg (cs := [vs[i]'(by omega)]) rfl (by simp [one_v]) (a_sel1 rfl ?_)
    refine a_iadN hP tyTF (own_slAt ho) hlt ?_
    refine a_store (vs := enc5 (la[i], vs[i]'(by omega))) hX hP szTF rfl rfl rfl rfl (one_enc5 (p := (la[i], vs[i]'(by omega))) one_v) ho h7.sz0 (by omega) (by decide) (own_off ho (all1 hb0)) (fun w2 hw2 => own_not_kb hw2 (own_stp ho hw2.stp (own_off ho (all1 hb0))) rfl) fun _ w2 w2' h2 k2 s2 su2 o2 => ?_
    rw [ask_succ (by omega)]
    intro w3 hw3
    refine ⟨⟨i + 1, rfl, hlt, ?_, hw3.kn⟩, by simp [intNat]; omega⟩
    have e : lset (((List.zip la vs).take i ++ List.replicate (la.length - i) ((0, .slice none 0 0) : Nat × Value)).flatMap enc5) (i * 5) (enc5 (la[i], vs[i]'(by omega))) = ((List.zip la vs).take (i + 1) ++ List.replicate (la.length - (i + 1)) ((0, .slice none 0 0) : Nat × Value)).flatMap enc5 := by
      rw [lset_flat enc5_len _ _ _ (by simp; omega), show la.length - i = la.length - (i + 1) + 1 by omega]
      have hz : (List.zip la vs)[i]'(by omega) = (la[i], vs[i]'(by omega)) := List.getElem_zip
      rw [← hz, put_next _ _ _ _ (by omega)]
    rw [e] at o2
    exact own_stp0 o2 hw3.stp
  · obtain rfl : i = la.length := by omega
    rw [List.take_of_length_le (by omega), Nat.sub_self, List.replicate_zero, List.append_nil] at ho
    refine hR _ _ _ _ fun w2 hw2 => ⟨_, rfl, ?_⟩
    have hz := hw2.kn.stp0 hX
    have r := p2_zip (w := w2) (a := la) hvl ha.2 fun i x l hx hl => (show Ls encS okS X.w0 x l from hve i x l hx hl).stp0 hz
    have zg : (List.zip la G).length = la.length := by simp; omega
    exact ⟨List.zip la vs, by rw [zg]; exact (own_slAt ho).stp0 hw2.stp, by rw [zl, zg], r.2⟩

/-! ### sum -/
def Tsg : Table := T0.add 111 cPlainF
theorem keepTsg : AllKeep Tryz.prog GT Tsg := keepT0.add keepsPlainF
def ann99 : Ann := ⟨[], [], 70, [(111, false), (112, false)], [], none, [], []⟩
def kb99_0 (b0 : Nat) : List KB := [⟨b0, true, 32, #[(.slice none 0 0)]⟩]
theorem vc99 (X : Ctx) (β : Nat → Nat) (x0 : Value) : (run Tryz.prog ann99 99 [.x (.v 0)] [] [] 2).den X (env0 [x0] X.w0) 2 β 0 (fun _ _ _ => False) = (
  AskNew X.w0 fun b0 =>
  Ask (rLen X.P 178 x0) fun x2 =>
  Ask (rBin X.P .lss 3 false true x2 (J 24)) fun x3 =>
  (∃ t, x3 = .bool t) ∧ (x3 = .bool true →
    AskW X X.w0 [] (kb99_0 b0) false 111 [x0] fun x4 w4 =>
    Ask (rAgg 1 x4) fun x5 =>
    Ask (rSel (aggArr x5) 0 1 false) fun x6 =>
    Ret X w4 [b0] [] (.agg #[x6])) ∧ (x3 = .bool false →
    AskW X X.w0 [] (kb99_0 b0) false 112 [x0] fun x4 w4 =>
    Ask (rExt X.P x4 0) fun x5 =>
    Ask (rExt X.P x4 1) fun x6 =>
    AskNew w4 fun b1 =>
    AskNew w4 fun b2 =>
    Ask (rAgg 1 x5) fun x7 =>
    Ask (rSel (aggArr x7) 0 1 false) fun x8 =>
    Ask (rAgg 2 x6) fun x9 =>
    Ask (rSel (aggArr x9) 0 1 false) fun _ =>
    Ask (rSel (aggArr x9) 1 1 false) fun _ =>
    Ask (rPlain x8) fun x12 =>
    Ret X w4 [b0, b2, b1] [] (.agg #[x12]))) := by kernel_rfl
theorem keepsSSumF : Keeps1 Tryz.prog GT 99 cSumF := by
  refine keepsW (T := Tsg) (A := ann99) hMix keepTsg hGT (calls_of (by kernel_rfl)) (callsW_of (by kernel_rfl)) fun args ⟨ts, _⟩ w0 hrd hpre hg => ?_
  obtain ⟨x, _, rfl, hl, rfl⟩ := hrd
  dsimp only at hl hpre
  refine ⟨[.x (.v 0)], [], [], 2, env0 [x] w0, fun b => b, 0, rfl, rfl, fun X hX => mem_none hX rfl, fun X hP hS hw hX hR => ?_⟩
  subst hw; try dsimp only at hR
  rw [vc99 X]
  intro b0 hb0
  have hsl := hl
  obtain ⟨ps, hsl, _⟩ := hsl
  refine a_len hP tyTF hsl ?_
  rw [ask_lssN]
  refine a_ifD (fun hlt => ?_) fun hge => absurd hpre.1 hge
  refine call_W hX hS (T := Tsg) (f := 111) rfl (ts, ()) (fun w hw => ⟨⟨_, _, rfl, cTF_stable _ _ _ _ (hw.kn.stp0 hX) hl, rfl⟩, by simp only [mx]; omega, hpre.2⟩) fun v w w' h k s su hv => ?_
  obtain ⟨y, rfl, o⟩ := hv
  dsimp only at o
  have lo := h.low (b := b0) (by simp [kb99_0])
  refine a_agg (cs := [y]) rfl (by simp [own_one o]) (a_sel1 rfl ?_)
  exact hR _ _ _ _ fun w2 hw2 => ⟨_, rfl, own_mono (own_stp o hw2.stp (off_own o (all1 lo))) h.sz0⟩

/-! ### images -/
def cImF : Contract := fnW (Cods.cons cClF (Cods.cons cLS Cods.nil)) (fun p _ => p.1.1.length = p.2.1.length ∧ p.2.1.length < 24 ∧ ∀ l ∈ p.1.1, l.length ≤ mx)
  (fun p w v w' => ∃ x, w'.ownsRow w.heap.size 32 1 v 1 [x] ∧ w'.ownsRow w.heap.size 25 4 x (plainF (List.zip p.2.1 p.1.1)).length ((plainF (List.zip p.2.1 p.1.1)).flatMap encS))
def Tim : Table := (T0.add 98 cZipF).add 99 cSumF
theorem keepTim : AllKeep Tryz.prog GT Tim := (keepT0.add keepsZipF).add keepsSSumF
def ann82 : Ann := ⟨[(3, ([5, 13], []))], [], 70, [(98, false), (99, false)], [], none, [], []⟩
def kb82_0 (b0 : Nat) (x4 x5 : Value) : List KB := [⟨b0, true, 29, #[x4, x5]⟩]
theorem vc82 (X : Ctx) (β : Nat → Nat) (x0 x1 : Value) : (run Tryz.prog ann82 82 [.x (.v 0), .x (.v 1)] [] [] 3).den X (env0 [x0, x1] X.w0) 3 β 0 (fun _ _ _ => False) = (
  Ask (rAgg 2 x0) fun x3 =>
  Ask (rSel (aggArr x3) 0 1 false) fun x4 =>
  Ask (rSel (aggArr x3) 1 1 false) fun x5 =>
  AskNew X.w0 fun b0 =>
  Ask (rLen X.P 26 x4) fun x6 =>
  ∃ (I0 : List Value → World → Prop) (μ0 : List Value → World → Nat), (∀ w, KnownV X X.w0 [] (kb82_0 b0 x4 x5) w → I0 [(.slice none 0 0), (J 0)] w) ∧ ∀ x7 x8 w9, I0 [x7, x8] w9 →
    Ask (rBin X.P .lss 3 false false x8 x6) fun x10 =>
    (∃ t, x10 = .bool t) ∧ (x10 = .bool true →
      Ask (rIad X.P 26 x4 x8) fun x11 =>
      Ask (rLoad X w9 [] 27 x11) fun x12 =>
      AskW X w9 [] (kb82_0 b0 x4 x5) false 98 [x1, x12] fun x13 w13 =>
      Ask (rExt X.P x13 0) fun x14 =>
      Ask (rExt X.P x13 1) fun _ =>
      AskW X w13 [] (kb82_0 b0 x4 x5) false 99 [x14] fun x16 w16 =>
      AskO X w16 [] (kb82_0 b0 x4 x5) false (Go.Op.buildSlice 27 1 #[(0, Go.Operand.tmp 25)]) 27 [(25, x16)] fun x17 w17 =>
      AskO X w17 [] (kb82_0 b0 x4 x5) true (appOp (.tmp 23) (.tmp 26) 27) 27 [(23, x7), (26, x17)] fun x18 w18 =>
      Ask (rBin X.P .add 3 false true x8 (J 1)) fun x19 =>
      Again X w18 [] [] fun w => I0 [x18, x19] w ∧ μ0 [x18, x19] w < μ0 [x7, x8] w9) ∧ (x10 = .bool false →
      Ret X w9 [] [] x7)) := by kernel_rfl
theorem keepsImF : Keeps1 Tryz.prog GT 82 cImF := by
  refine keepsW (T := Tim) (A := ann82) hMix keepTim hGT (calls_of (by kernel_rfl)) (callsW_of (by kernel_rfl)) fun args ⟨⟨G, L⟩, la, _⟩ w0 hrd hpre hg => ?_
  obtain ⟨_, _, rfl, ⟨rows, images, row, img, rfl, h1, h2, h3, h4⟩, xa, _, rfl, ha, rfl⟩ := hrd
  dsimp only at h3 h4 ha hpre
  obtain ⟨hlen, hfew, hmx⟩ := hpre
  refine ⟨[.x (.v 0), .x (.v 1)], [], [], 3, env0 [.agg #[rows, images], xa] w0, fun b => b, 0, rfl, rfl, fun X hX => mem_none hX rfl, fun X hP hS hw hX hR => ?_⟩
  subst hw; try dsimp only at hR
  rw [vc82 X]
  refine a_agg (cs := [rows, images]) rfl (by simp [slAt_one h1, slAt_one h2]) ?_
  iterate 2 refine a_sel1 rfl ?_
  intro b0 hb0
  refine a_len hP tyLF h1 ?_
  refine ⟨fun a w => ∃ i o, a = [o, J i] ∧ i ≤ 1 ∧ Kn X w ∧ (i = 0 → o = .slice none 0 0) ∧ (i = 1 → ∃ x, w.ownsRow X.w0.heap.size 32 1 o 1 [x] ∧ w.ownsRow X.w0.heap.size 25 4 x (plainF (List.zip la G)).length ((plainF (List.zip la G)).flatMap encS)), fun a _ => match a with | [_, i] => 1 - intNat i | _ => 0,
    fun w hw => ⟨0, _, rfl, Nat.zero_le _, hw.kn, fun _ => rfl, fun h => by cases h⟩, ?_⟩
  rintro _ _ w ⟨i, o, he, hi, hk, hi0, hi1⟩
  simp only [List.cons.injEq, and_true] at he
  obtain ⟨rfl, rfl⟩ := he
  rw [ask_lssN]
  refine a_ifD (fun hlt => ?_) fun hge => ?_
  · obtain rfl : i = 0 := by omega
    obtain rfl := hi0 rfl
    have h1' := h1.stp0 (hk.stp0 hX)
    refine a_iadN (i := 0) hP tyLF h1' (by decide) ?_
    refine a_load_one (c := row) hk h1' (by rw [hP]; exact aggLF) (fun _ _ => List.not_mem_nil) rfl ?_
    refine call_W hX hS (T := Tim) (f := 98) rfl (la, G, ()) (fun w2 hw => ⟨⟨_, _, rfl, cLS_stable _ _ _ _ (hw.kn.stp0 hX) ha, _, _, rfl, cLLS_stable _ _ _ _ (hw.kn.stp0 hX) h3, rfl⟩, hlen.symm, Nat.le_trans (Nat.le_of_lt hfew) (by decide)⟩) fun v w2 w2' hw2 k2 s2 su2 hv => ?_
    obtain ⟨t, rfl, ht⟩ := hv
    rw [ask_ext (v := t) rfl, ask_ext (v := J 0) rfl]
    refine call_W hX hS (T := Tim) (f := 99) rfl (List.zip la G, ()) (fun w3 hw => ⟨⟨_, _, rfl, cTF_stable _ _ _ _ hw.stp ht, rfl⟩, by dsimp only; rw [List.length_zip]; omega, fun t ht => hmx _ (List.of_mem_zip ht).2⟩) fun v w3 w3' hw3 k3 s3 su3 hv => ?_
    obtain ⟨y, rfl, oy⟩ := hv
    dsimp only at oy
    refine a_build #[y] hX hP tyFree (by decide) (by decide) (by kernel_rfl) rfl (by decide) fun q w4 w4' hw4 k4 s4 su4 o4 => ?_
    refine a_append (v := .slice none 0 0) (n := 0) (m := 1) (base := w4.heap.size) hX hP tyFree rfl rfl rfl (by decide) hw4.sz0 s4.size (World.ownsRow_nil _ _ _ _) (fun w5 hw5 => (own_slAt o4).stp0 hw5.stp) rfl (fun c hc => by
      simp only [List.mem_singleton] at hc
      rw [hc]; exact own_one oy) (fun _ h => by cases h) (fun _ _ _ h => by cases h) (by decide) (by decide) fun o' w5 w5' hw5 k5 s5 su5 o5 _ => ?_
    rw [ask_succ (by decide)]
    intro w6 hw6
    refine ⟨⟨1, o', rfl, by decide, hw6.kn, (fun h => by cases h), fun _ => ⟨y, own_mono (own_stp0 o5 hw6.stp) hw4.sz0, own_mono (own_stp0 (own_stp0 (own_stp0 oy su4) su5) hw6.stp) hw3.sz0⟩⟩, by simp [intNat]⟩
  · obtain rfl : i = 1 := by omega
    obtain ⟨x, o1, o2⟩ := hi1 rfl
    exact hR _ _ _ _ fun w2 hw2 => ⟨x, own_stp0 o1 hw2.stp, own_stp0 o2 hw2.stp⟩
#print axioms keepsImF
end Go.Vc
