import Derived.Test.YtcnmnmhmmgjblaaGreatDoorDJl
/-
  What the laws make of a case.
-/
namespace Go.Vc
open Go Go.Proofs Go.RowKit
/-! ### Fill, LineOf, SameList, Other -/
def filV (l : List Nat) (i : Nat) : Nat := if i < l.length then l.getD i 0 else 5 * i + 3
theorem filV_lt {l : List Nat} (h : ∀ x ∈ l, okS x) {i : Nat} (hi : i ≤ 1000) : filV l i < W256 := by
  unfold filV
  split
  · exact getD_okSj h i
  · exact Nat.lt_trans (show 5 * i + 3 < 10000 by omega) (by decide)
theorem ls_filV {l : List Nat} (h : ∀ x ∈ l, okS x) {n : Nat} (hn : n ≤ 1000) : ∀ x ∈ mapN (filV l) n, okS x := fun x hx => by
  simp only [mapN, List.mem_map, List.mem_range] at hx
  obtain ⟨i, hi, rfl⟩ := hx
  exact filV_lt h (by omega)
def ann22 : Ann := ⟨[(3, ([5, 6], []))], [28], 70, [], [], none, [], []⟩
theorem vc22 (X : Ctx) (β : Nat → Nat) (x0 x1 : Value) : (run Tryz.prog ann22 22 [.x (.v 0), .x (.v 1)] [] [] 3).den X (env0 [x0, x1] X.w0) 3 β 0 (fun _ _ _ => False) = (
 ∃ (I0 : List Value → World → Prop) (μ0 : List Value → World → Nat), (∀ w, KnownV X X.w0 [] [] w → I0 [(.slice none 0 0), (J 0)] w) ∧ ∀ x3 x4 w5, I0 [x3, x4] w5 →
 Ask (rBin X.P .lss 3 false false x4 x1) fun x6 =>
 (∃ t, x6 = .bool t) ∧ (x6 = .bool true →
 Ask (rLen X.P 24 x0) fun x7 =>
 Ask (rBin X.P .lss 3 false false x4 x7) fun x8 =>
 (∃ t, x8 = .bool t) ∧ (x8 = .bool true →
 Ask (rIad X.P 24 x0 x4) fun x9 =>
 Ask (rLoad X w5 [] 23 x9) fun x10 =>
 AskO X w5 [] [] false (Op.buildSlice 28 1 #[(0, Operand.tmp 20)]) 28 [(20, x10)] fun x11 w11 =>
 AskO X w11 [] [] true (appOp (.tmp 16) (.tmp 21) 28) 28 [(16, x3), (21, x11)] fun x12 w12 =>
 Ask (rBin X.P .add 3 false true x4 (J 1)) fun x13 =>
 Again X w12 [] [] fun w => I0 [x12, x13] w ∧ μ0 [x12, x13] w < μ0 [x3, x4] w5) ∧ (x8 = .bool false →
 Ask (rBin X.P .mul 3 true false (J 5) x4) fun x9 =>
 Ask (rBin X.P .add 3 false true x9 (J 3)) fun x10 =>
 Ask (rConv X.P 3 22 x10) fun x11 =>
 AskF X 28 [x11] fun x12 =>
 AskO X w5 [] [] false (Op.buildSlice 28 1 #[(0, Operand.tmp 28)]) 28 [(28, x12)] fun x13 w13 =>
 AskO X w13 [] [] true (appOp (.tmp 23) (.tmp 29) 28) 28 [(23, x3), (29, x13)] fun x14 w14 =>
 Ask (rBin X.P .add 3 false true x4 (J 1)) fun x15 =>
 Again X w14 [] [] fun w => I0 [x14, x15] w ∧ μ0 [x14, x15] w < μ0 [x3, x4] w5)) ∧ (x6 = .bool false →
 Ret X w5 [] [] x3)) := by kernel_rfl
def cFil : Contract := fnW (Cods.cons cLS (Cods.cons cJn' Cods.nil)) (fun p _ => p.2.1 ≤ 64) (fun p w v w' => w'.ownsRow w.heap.size 29 4 v p.2.1 ((mapN (filV p.1) p.2.1).flatMap encS))
def Tfl : Table := T0.add 28 cRInt
theorem keepTfl : AllKeep Tryz.prog GT Tfl := keepT0.add keepsSInt
theorem tyW4j : ElTy Tryz.prog 24 23 4 32 (.agg #[U 0, U 0, U 0, U 0]) := ⟨by kernel_rfl, by kernel_rfl⟩
theorem aggW4j : agg? Tryz.prog 23 = some true := by kernel_rfl
theorem szW4j : sz Tryz.prog 23 = some 4 := by kernel_rfl
theorem keepsFil : Keeps1 Tryz.prog GT 22 cFil := by
  refine keepsW (T := Tfl) (A := ann22) hMix keepTfl hGT (calls_of (by kernel_rfl)) (callsW_of (by kernel_rfl)) fun args ⟨l, n, _⟩ w0 hrd hpre hg => ?_
  obtain ⟨x, _, rfl, hl, _, _, rfl, rfl, rfl⟩ := hrd
  dsimp only at hl hpre
  replace hl : LsS w0 x l := hl
  refine ⟨[.x (.v 0), .x (.v 1)], [], [], 3, env0 [x, J n] w0, fun b => b, 0, rfl, rfl, fun X hX => mem_none hX rfl, fun X hP hS hw hX hR => ?_⟩
  subst hw; try dsimp only at hR
  rw [vc22 X]
  refine ⟨fun a w => ∃ (i : Nat) (o : Value), a = [o, J i] ∧ i ≤ n ∧ Kn X w ∧ MRows X.w0 w 29 4 encS [] 1 (fun _ => o) (fun _ => mapN (filV l) i), fun a _ => match a with | [_, i] => n - intNat i | _ => 0, fun w hw => ⟨0, _, rfl, Nat.zero_le _, hw.kn, MRows.nil X.w0 hw.stp encS _ 1 _ 4⟩, ?_⟩
  rintro o _ w ⟨i, _, he, hi, hk, hm⟩
  simp only [List.cons.injEq, and_true] at he
  obtain ⟨rfl, rfl⟩ := he
  have s0 := hk.stp0 hX
  rw [ask_lssN]
  refine a_ifD (fun hlt => ?_) fun hge => ?_
  · refine a_len hP tyW4j hl.1 ?_
    rw [ask_lssN]
    refine a_ifD (fun hli => ?_) fun hli => ?_
    · have e : l.getD i 0 = l[i] := by rw [List.getD_eq_getElem?_getD, List.getElem?_eq_getElem hli]; rfl
      refine a_iadN hP tyW4j (hl.1.stp0 s0) hli ?_
      refine a_load_agg (cs := encS l[i]) hk (hl.1.stp0 s0) (by rw [hP]; exact aggW4j) (by rw [hP]; exact szW4j) (fun _ _ => List.not_mem_nil) (by simp [encS]) (flat_at encS_len l i _ (List.getElem?_eq_getElem hli)) ?_
      have ev : filV l i = l[i] := by unfold filV; rw [if_pos hli, e]
      refine a_pushR [l[i]] 1 rfl hX hP tySI rfl rfl (by decide) encS_len hm (i := 0) (by decide) rfl (Nat.le_refl _) (fun b hb => by cases hb) (fun b hb => by cases hb) (fun b hb => by cases hb) (by decide) (by decide) (by kernel_rfl) (by simp [one_encS]) (by rw [mapN_len]; unfold maxLen; omega) (by rw [mapN_len]; omega) fun v' w5 k5 s5 hm5 => ?_
      rw [ask_succ (by omega)]
      intro w6 hw6
      refine ⟨⟨i + 1, v', rfl, hlt, hw6.kn, (hm5.stp hw6.stp).congrV (fun j hj => ?_) (fun j hj => ?_)⟩, by simp [intNat]; omega⟩
      · obtain rfl : j = 0 := by omega
        rfl
      · obtain rfl : j = 0 := by omega
        show mapN _ i ++ [_] = _
        rw [mapN_succ, ev]
    · rw [ask_mulN (by omega), ask_addN (by omega), hP, ask_j2uI (Nat.lt_trans (show 5 * i + 3 < 1000 by omega) (by decide))]
      refine call_PE hS (T := Tfl) (f := 28) rfl (5 * i + 3) (Nat.lt_trans (show 5 * i + 3 < 1000 by omega) (by decide)) ?_
      have ev : filV l i = 5 * i + 3 := by unfold filV; rw [if_neg hli]
      refine a_pushR [5 * i + 3] 1 rfl hX hP tySI rfl rfl (by decide) encS_len hm (i := 0) (by decide) rfl (Nat.le_refl _) (fun b hb => by cases hb) (fun b hb => by cases hb) (fun b hb => by cases hb) (by decide) (by decide) (by kernel_rfl) (by simp [one_encS]) (by rw [mapN_len]; unfold maxLen; omega) (by rw [mapN_len]; omega) fun v' w5 k5 s5 hm5 => ?_
      rw [ask_succ (by omega)]
      intro w6 hw6
      refine ⟨⟨i + 1, v', rfl, hlt, hw6.kn, (hm5.stp hw6.stp).congrV (fun j hj => ?_) (fun j hj => ?_)⟩, by simp [intNat]; omega⟩
      · obtain rfl : j = 0 := by omega
        rfl
      · obtain rfl : j = 0 := by omega
        show mapN _ i ++ [_] = _
        rw [mapN_succ, ev]
  · obtain rfl : i = n := by omega
    have r0 : w.ownsRow X.w0.heap.size 29 4 o (mapN (filV l) i).length ((mapN (filV l) i).flatMap encS) := hm.row 0 (by decide)
    rw [mapN_len] at r0
    exact hR _ _ _ _ fun wf hwf => own_stp0 r0 hwf.stp
def ann21 : Ann := ⟨[(3, ([3, 4], []))], [], 70, [], [], none, [], []⟩
theorem vc21 (X : Ctx) (β : Nat → Nat) (x0 : Value) : (run Tryz.prog ann21 21 [.x (.v 0)] [] [] 2).den X (env0 [x0] X.w0) 2 β 0 (fun _ _ _ => False) = (
 ∃ (I0 : List Value → World → Prop) (μ0 : List Value → World → Nat), (∀ w, KnownV X X.w0 [] [] w → I0 [(.slice none 0 0), (J 0)] w) ∧ ∀ x2 x3 w4, I0 [x2, x3] w4 →
 Ask (rLen X.P 28 x0) fun x5 =>
 Ask (rBin X.P .lss 3 false false x3 x5) fun x6 =>
 (∃ t, x6 = .bool t) ∧ (x6 = .bool true →
 Ask (rIad X.P 28 x0 x3) fun x7 =>
 Ask (rLoad X w4 [] 29 x7) fun x8 =>
 Ask (rAgg 4 x8) fun x9 =>
 Ask (rSel (aggArr x9) 0 1 false) fun x10 =>
 Ask (rSel (aggArr x9) 1 1 false) fun x11 =>
 Ask (rSel (aggArr x9) 2 1 false) fun x12 =>
 Ask (rSel (aggArr x9) 3 1 false) fun x13 =>
 AskO X w4 [] [] false (Op.buildSlice 40 1 #[(0, Operand.tmp 16)]) 40 [(16, (.agg #[x10, x11, x12, x13]))] fun x14 w14 =>
 AskO X w14 [] [] true (appOp (.tmp 11) (.tmp 17) 40) 40 [(11, x2), (17, x14)] fun x15 w15 =>
 Ask (rBin X.P .add 3 false true x3 (J 1)) fun x16 =>
 Again X w15 [] [] fun w => I0 [x15, x16] w ∧ μ0 [x15, x16] w < μ0 [x2, x3] w4) ∧ (x6 = .bool false →
 Ret X w4 [] [] x2)) := by kernel_rfl
def cLof : Contract := fnW (Cods.cons cLS Cods.nil) (fun p _ => p.1.length ≤ 1000) (fun p w v w' => w'.ownsRow w.heap.size 31 4 v p.1.length (p.1.flatMap encS))
theorem keepsLof : Keeps1 Tryz.prog GT 21 cLof := by
  refine keepsW (T := T0) (A := ann21) hMix keepT0 hGT (calls_of (by kernel_rfl)) (callsW_of (by kernel_rfl)) fun args ⟨l, _⟩ w0 hrd hpre hg => ?_
  obtain ⟨x, _, rfl, hl, rfl⟩ := hrd
  dsimp only at hl hpre
  replace hl : LsS w0 x l := hl
  refine ⟨[.x (.v 0)], [], [], 2, env0 [x] w0, fun b => b, 0, rfl, rfl, fun X hX => mem_none hX rfl, fun X hP hS hw hX hR => ?_⟩
  subst hw; try dsimp only at hR
  rw [vc21 X]
  refine ⟨fun a w => ∃ (i : Nat) (o : Value), a = [o, J i] ∧ i ≤ l.length ∧ Kn X w ∧ MRows X.w0 w 31 4 encS [] 1 (fun _ => o) (fun _ => l.take i), fun a _ => match a with | [_, i] => l.length - intNat i | _ => 0, fun w hw => ⟨0, _, rfl, Nat.zero_le _, hw.kn, MRows.nil X.w0 hw.stp encS _ 1 _ 4⟩, ?_⟩
  rintro o _ w ⟨i, _, he, hi, hk, hm⟩
  simp only [List.cons.injEq, and_true] at he
  obtain ⟨rfl, rfl⟩ := he
  have s0 := hk.stp0 hX
  have lt : (l.take i).length = i := by rw [List.length_take]; omega
  refine a_len hP tySI hl.1 ?_
  rw [ask_lssN]
  refine a_ifD (fun hli => ?_) fun hge => ?_
  · refine ld_SN hP hk (hl.1.stp0 s0) rfl hli (fun _ _ => List.not_mem_nil) ?_
    have e : l.getD i 0 = l[i] := by rw [List.getD_eq_getElem?_getD, List.getElem?_eq_getElem hli]; rfl
    rw [ask_aggS, ask_selS0, ask_selS1, ask_selS2, ask_selS3, e]
    refine a_pushR [l[i]] 1 rfl hX hP tyL rfl rfl (by decide) encS_len hm (i := 0) (by decide) rfl (Nat.le_refl _) (fun b hb => by cases hb) (fun b hb => by cases hb) (fun b hb => by cases hb) (by decide) (by decide) (by kernel_rfl) (by simp [one_encS]) (by rw [lt]; unfold maxLen; omega) (by rw [lt]; omega) fun v' w5 k5 s5 hm5 => ?_
    rw [ask_succ (by omega)]
    intro w6 hw6
    refine ⟨⟨i + 1, v', rfl, hli, hw6.kn, (hm5.stp hw6.stp).congrV (fun j hj => ?_) (fun j hj => ?_)⟩, by simp [intNat]; omega⟩
    · obtain rfl : j = 0 := by omega
      rfl
    · obtain rfl : j = 0 := by omega
      show l.take i ++ [_] = _
      rw [List.take_add_one, List.getElem?_eq_getElem hli]; rfl
  · obtain rfl : i = l.length := by omega
    have r0 : w.ownsRow X.w0.heap.size 31 4 o (l.take l.length).length ((l.take l.length).flatMap encS) := hm.row 0 (by decide)
    rw [List.take_length] at r0
    exact hR _ _ _ _ fun wf hwf => own_stp0 r0 hwf.stp
def ann35 : Ann := ⟨[(4, ([5], []))], [34], 70, [], [], none, [], []⟩
theorem vc35 (X : Ctx) (β : Nat → Nat) (x0 x1 : Value) : (run Tryz.prog ann35 35 [.x (.v 0), .x (.v 1)] [] [] 3).den X (env0 [x0, x1] X.w0) 3 β 0 (fun _ _ _ => False) = (
 Ask (rLen X.P 28 x0) fun x3 =>
 Ask (rLen X.P 28 x1) fun x4 =>
 Ask (rBin X.P .neq 3 false false x3 x4) fun x5 =>
 (∃ t, x5 = .bool t) ∧ (x5 = .bool true →
 Ret X X.w0 [] [] (.bool false)) ∧ (x5 = .bool false →
 ∃ (I0 : List Value → World → Prop) (μ0 : List Value → World → Nat), (∀ w, KnownV X X.w0 [] [] w → I0 [(J 0)] w) ∧ ∀ x6 w7, I0 [x6] w7 →
 Ask (rLen X.P 28 x0) fun x8 =>
 Ask (rBin X.P .lss 3 false false x6 x8) fun x9 =>
 (∃ t, x9 = .bool t) ∧ (x9 = .bool true →
 Ask (rIad X.P 28 x0 x6) fun x10 =>
 Ask (rLoad X w7 [] 29 x10) fun x11 =>
 Ask (rIad X.P 28 x1 x6) fun x12 =>
 Ask (rLoad X w7 [] 29 x12) fun x13 =>
 AskF X 34 [x11, x13] fun x14 =>
 Ask (rUn X.P .not x14) fun x15 =>
 (∃ t, x15 = .bool t) ∧ (x15 = .bool true →
 Ret X w7 [] [] (.bool false)) ∧ (x15 = .bool false →
 Ask (rBin X.P .add 3 false true x6 (J 1)) fun x16 =>
 Again X w7 [] [] fun w => I0 [x16] w ∧ μ0 [x16] w < μ0 [x6] w7)) ∧ (x9 = .bool false →
 Ret X w7 [] [] (.bool true)))) := by kernel_rfl
def cSml : Contract := fnW (Cods.cons cLS (Cods.cons cLS Cods.nil)) (fun p _ => p.1.map rF = p.2.1.map rF) (fun _ _ v _ => v = .bool true)
def Tsl : Table := T0.add 34 cqSame
theorem keepTsl : AllKeep Tryz.prog GT Tsl := keepT0.add keepsqSame
theorem keepsSml : Keeps1 Tryz.prog GT 35 cSml := by
  refine keepsW (T := Tsl) (A := ann35) hMix keepTsl hGT (calls_of (by kernel_rfl)) (callsW_of (by kernel_rfl)) fun args ⟨a, b, _⟩ w0 hrd hpre hg => ?_
  obtain ⟨x, _, rfl, ha, y, _, rfl, hb, rfl⟩ := hrd
  dsimp only at ha hb hpre
  replace ha : LsS w0 x a := ha
  replace hb : LsS w0 y b := hb
  have hl : a.length = b.length := by have := congrArg List.length hpre; simpa using this
  have hmx := len_max ha
  unfold maxLen at hmx
  refine ⟨[.x (.v 0), .x (.v 1)], [], [], 3, env0 [x, y] w0, fun b => b, 0, rfl, rfl, fun X hX => mem_none hX rfl, fun X hP hS hw hX hR => ?_⟩
  subst hw; try dsimp only at hR
  rw [vc35 X]
  refine a_len hP tySI ha.1 ?_
  refine a_len hP tySI hb.1 ?_
  rw [ask_neqN, decide_eq_true hl]
  refine a_if (fun h => by cases h) fun _ => ?_
  refine ⟨fun q w => ∃ i, q = [J i] ∧ i ≤ a.length ∧ Kn X w, fun q _ => match q with | i :: _ => a.length - intNat i | _ => 0, fun w hw => ⟨0, rfl, Nat.zero_le _, hw.kn⟩, ?_⟩
  rintro _ w ⟨i, he, hi, hk⟩
  simp only [List.cons.injEq, and_true] at he
  subst he
  refine a_len hP tySI ha.1 ?_
  rw [ask_lssN]
  refine a_ifD (fun hlt => ?_) fun hge => ?_
  · have s0 := hk.stp0 hX
    refine ld_SN hP hk (ha.1.stp0 s0) rfl hlt (fun _ _ => List.not_mem_nil) ?_
    refine ld_SN hP hk (hb.1.stp0 s0) rfl (by omega) (fun _ _ => List.not_mem_nil) ?_
    obtain ⟨p, ep⟩ : ∃ p, p = a.getD i 0 := ⟨_, rfl⟩
    obtain ⟨r, er⟩ : ∃ r, r = b.getD i 0 := ⟨_, rfl⟩
    have hpr : rF p = rF r := by
      have h1 := congrArg (fun l : List F => l[i]?) hpre
      simp only [List.getElem?_map] at h1
      rw [List.getElem?_eq_getElem hlt, List.getElem?_eq_getElem (by omega : i < b.length)] at h1
      rw [ep, er, List.getD_eq_getElem?_getD, List.getD_eq_getElem?_getD, List.getElem?_eq_getElem hlt, List.getElem?_eq_getElem (by omega : i < b.length)]
      exact Option.some.inj h1
    rw [← ep, ← er]
    refine call_PE hS (T := Tsl) (f := 34) rfl (p, r) ⟨ep ▸ getD_okSj ha.2 i, er ▸ getD_okSj hb.2 i⟩ ?_
    dsimp only
    rw [decide_eq_true hpr, ask_not]
    refine a_if (fun h => by cases h) fun _ => ?_
    rw [ask_succ (by omega)]
    intro w2 hw2
    exact ⟨⟨i + 1, rfl, hlt, hw2.kn⟩, by simp [intNat]; omega⟩
  · exact hR _ _ _ _ fun _ _ => rfl
def ann26 : Ann := ⟨[], [30, 28], 70, [], [1, 2], none, [], []⟩
theorem vc26 (X : Ctx) (β : Nat → Nat) (x0 : Value) : (run Tryz.prog ann26 26 [.x (.v 0)] [] [] 2).den X (env0 [x0] X.w0) 2 β 0 (fun _ _ _ => False) = (
 Ask (rAgg 4 x0) fun x2 =>
 AskNew X.w0 fun _ =>
 Ask (rAgg 4 (.agg #[(U 0), (U 0), (U 0), (U 0)])) fun _ =>
 AskNew X.w0 fun b1 =>
 AskF X 30 [x2] fun x4 =>
 (∃ t, x4 = .bool t) ∧ (x4 = .bool true →
 AskF X 28 [(U 1)] fun x5 =>
 Ask (rAgg 4 x5) fun x6 =>
 Ret X X.w0 [b1] [] x6) ∧ (x4 = .bool false →
 Ask (rAgg 4 x2) fun x5 =>
 Ret X X.w0 [b1] [] x5)) := by kernel_rfl
def othN (n : Nat) : Nat := if rF n = 0 then 1 else n
theorem othN_lt {n : Nat} (h : n < W256) : othN n < W256 := by
  unfold othN
  split
  · decide
  · exact h
theorem othN_ne (n : Nat) : rF (othN n) ≠ 0 := by
  unfold othN
  split
  · rw [rF_one]; decide
  · assumption
def cOth : Contract := fnP enc1 (· < W256) (fun n v => v = S (othN n))
def Tot : Table := (T0.add 30 cqIsZ).add 28 cRInt
theorem keepTot : AllKeep Tryz.prog GT Tot := (keepT0.add keepsqIsZ).add keepsSInt
theorem keepsOth : Keeps1 Tryz.prog GT 26 cOth := by
  refine keepsP (T := Tot) (A := ann26) inj1 hMix keepTot hGT (calls_of (by kernel_rfl)) (callsW_of (by kernel_rfl)) fun n w0 hn _ => ⟨[.x (.v 0)], [], [], 2, env0 [S n] w0, fun b => b, 0, rfl, rfl, fun X hX => mem_none hX rfl, fun X hP hS hw hX hR => ?_⟩
  subst hw
  rw [vc26 X]
  rw [ask_aggS]; intro _ _
  rw [ask_zero4]; intro _ _
  refine call_PE hS (T := Tot) (f := 30) rfl n hn ?_
  refine a_ifD (fun h => ?_) fun h => ?_
  · refine call_PE hS (T := Tot) (f := 28) rfl 1 (by decide) ?_
    rw [ask_aggS]
    exact hR _ _ _ _ (by rw [othN, if_pos h])
  · rw [ask_aggS]
    exact hR _ _ _ _ (by rw [othN, if_neg h])
theorem keepsLSm : Keeps1 Tryz.prog GT 36 cqSame := by
  refine keepsP (T := Tsl) (A := ann36) inj2 hMix keepTsl hGT (calls_of (by kernel_rfl)) (callsW_of (by kernel_rfl)) fun ⟨a, b⟩ w0 ⟨ha, hb⟩ _ => ⟨[.x (.v 0), .x (.v 1)], [], [], 3, env0 [S a, S b] w0, fun b => b, 0, rfl, rfl, fun X hX => mem_none hX rfl, fun X hP hS hw hX hR => ?_⟩
  subst hw
  rw [vc36 X]
  dsimp only at ha hb hR
  rw [ask_aggS]; intro _ _; rw [ask_aggS]; intro _ _
  refine call_PE hS (T := Tsl) (f := 34) rfl (a, b) ⟨ha, hb⟩ ?_
  exact hR _ _ _ _ rfl
#print axioms keepsLSm
end Go.Vc

/-
  Small parameters; a case's openings, tape and set, cut to size.
-/
namespace Go.Vc
open Go Go.Proofs Go.RowKit
/-! ### Small -/
def okSm (m n : Nat) : Prop := 0 < m ∧ m ≤ 32 ∧ 0 < n ∧ n ≤ 16 ∧ m * n ≤ 32 ∧ okPar m n = true
theorem okSm_of {m n : Nat} (hm : m ∈ [1, 2, 4, 8, 16, 32]) (hn : n ∈ [1, 2, 4, 8, 16]) (h : m * n ≤ 32) : okSm m n := by
  have h1 : ∀ a ∈ [1, 2, 4, 8, 16, 32], ∀ b ∈ [1, 2, 4, 8, 16], 0 < a ∧ a ≤ 32 ∧ 0 < b ∧ b ≤ 16 ∧ okPar (a : Nat) (b : Nat) = true := by decide
  obtain ⟨a, b, c, d, e⟩ := h1 m hm n hn
  exact ⟨a, b, c, d, h, e⟩
theorem ask_remJ {P : Program} {K : Value → Prop} {t : TypeId} {cx cy : Bool} {a : Int} {b : Nat} (hb : 0 < b) : Ask (rBin P .rem t cx cy (.int .i64 a) (J b)) K = K (.int .i64 (a.tmod b)) :=
  ask_eq (runs_iff fun w => by
    have h3 : ¬ ((b : Int) = 0) := by omega
    simp only [binSem, eqGuard, binOp, Op.intDiv, h3, if_false]
    rfl)
theorem ask_remU {P : Program} {K : Value → Prop} {t : TypeId} {cx cy : Bool} {a b : Nat} (hb : 0 < b) : Ask (rBin P .rem t cx cy (U a) (U b)) K = K (U (a % b)) :=
  ask_eq (runs_iff fun w => by
    have h3 : ¬ ((b : Int) = 0) := by omega
    simp only [U, binSem, eqGuard, binOp, Op.intDiv, h3, if_false]
    rfl)
/-- A number's rest, made positive. -/
theorem a_rest {P : Program} {K : Value → Prop} {t : TypeId} {a : Int} {b : Nat} (hb : 0 < b) (hb2 : b < 100) (hK : ∀ k : Nat, k < b → K (J k)) : Ask (rBin P .rem t false true (.int .i64 a) (J b)) fun x => Ask (rBin P .add t false true x (J b)) fun y => Ask (rBin P .rem t false true y (J b)) K := by
  rw [ask_remJ hb, ask_add]
  have h1 : -(b : Int) < a.tmod b := by
    have := Int.lt_tmod_of_pos a (show (0 : Int) < b by omega); omega
  have h2 : a.tmod b < b := Int.tmod_lt_of_pos a (by omega)
  obtain ⟨k, hk⟩ : ∃ k : Nat, a.tmod b + b = k := ⟨(a.tmod b + b).toNat, by omega⟩
  rw [hk, wrap_i64 (by omega) (by omega), ask_remN hb]
  exact hK _ (Nat.mod_lt _ hb)
def ann19 : Ann := ⟨[(3, ([8], [1])), (7, ([9], [1]))], [23], 70, [], [6, 7], none, [], []⟩
def kb19_0 (b0 b1 : Nat) (x4 x6 : Value) : List KB := [⟨b0, true, 45, (aggArr x4)⟩, ⟨b1, true, 45, (aggArr x6)⟩]
def kb19_1 (b0 b1 : Nat) (x4 x11 : Value) : List KB := [⟨b0, true, 45, (aggArr x4)⟩, ⟨b1, true, 45, (aggArr x11)⟩]
theorem vc19 (X : Ctx) (β : Nat → Nat) (x0 x1 x2 : Value) : (run Tryz.prog ann19 19 [.x (.v 0), .x (.v 1), .x (.v 2)] [] [] 4).den X (env0 [x0, x1, x2] X.w0) 4 β 0 (fun _ _ _ => False) = (
 Ask (rAgg 2 (.agg #[(J 0), (J 0)])) fun x4 =>
 AskNew X.w0 fun b0 =>
 Ask (rAgg 2 (.agg #[(J 0), (J 0)])) fun _ =>
 AskNew X.w0 fun b1 =>
 Ask (rAgg 2 (.agg #[(J 1), (J 1)])) fun x6 =>
 Ask (rBin X.P .rem 3 false true x0 (J 8)) fun x7 =>
 Ask (rBin X.P .add 3 false true x7 (J 8)) fun x8 =>
 Ask (rBin X.P .rem 3 false true x8 (J 8)) fun x9 =>
 ∃ (I0 : List Value → World → Prop) (μ0 : List Value → World → Nat), (∀ w, KnownV X X.w0 [b1] (kb19_0 b0 b1 x4 x6) w → I0 [x9, x6] w) ∧ ∀ x10 x11 w12, I0 [x10, x11] w12 →
 Ask (rBin X.P .gtr 3 false true x10 (J 0)) fun x13 =>
 AskGF X [(x13, true)] 23 [x11] fun x14 =>
 AskG [(x13, true)] (rBin X.P .mul 3 true false (J 2) x14) fun x15 =>
 AskG [(x13, true)] (rBin X.P .leq 3 false false x15 x2) fun x16 =>
 Ask (rPick x13 x16 (.bool false)) fun x17 =>
 (∃ t, x17 = .bool t) ∧ (x17 = .bool true →
 Ask (rSel (aggArr x11) 0 1 false) fun x18 =>
 Ask (rBin X.P .mul 3 true false (J 2) x18) fun x19 =>
 Ask (rUpd (aggArr x11) 0 1 x19) fun x20 =>
 Ask (rBin X.P .sub 3 false true x10 (J 1)) fun x21 =>
 Again X w12 [b1] [] fun w => I0 [x21, x20] w ∧ μ0 [x21, x20] w < μ0 [x10, x11] w12) ∧ (x17 = .bool false →
 Ask (rBin X.P .rem 3 false true x1 (J 5)) fun x18 =>
 Ask (rBin X.P .add 3 false true x18 (J 5)) fun x19 =>
 Ask (rBin X.P .rem 3 false true x19 (J 5)) fun x20 =>
 ∃ (I0 : List Value → World → Prop) (μ0 : List Value → World → Nat), (∀ w, KnownV X w12 [] (kb19_1 b0 b1 x4 x11) w → I0 [x20, x11] w) ∧ ∀ x21 x22 w23, I0 [x21, x22] w23 →
 Ask (rBin X.P .gtr 3 false true x21 (J 0)) fun x24 =>
 AskGF X [(x24, true)] 23 [x22] fun x25 =>
 AskG [(x24, true)] (rBin X.P .mul 3 true false (J 2) x25) fun x26 =>
 AskG [(x24, true)] (rBin X.P .leq 3 false false x26 x2) fun x27 =>
 Ask (rPick x24 x27 (.bool false)) fun x28 =>
 (∃ t, x28 = .bool t) ∧ (x28 = .bool true →
 Ask (rSel (aggArr x22) 1 1 false) fun x29 =>
 Ask (rBin X.P .mul 3 true false (J 2) x29) fun x30 =>
 Ask (rUpd (aggArr x22) 1 1 x30) fun x31 =>
 Ask (rBin X.P .sub 3 false true x21 (J 1)) fun x32 =>
 Again X w23 [b1] [] fun w => I0 [x32, x31] w ∧ μ0 [x32, x31] w < μ0 [x21, x22] w23) ∧ (x28 = .bool false →
 Ask (rAgg 2 x22) fun x29 =>
 Ret X w23 [b0] [] x29))) := by kernel_rfl
theorem injSp (p q : Int × Int) (_ : True) (_ : True) (h : [Value.int .i64 p.1, .int .i64 p.2, J 32] = [Value.int .i64 q.1, .int .i64 q.2, J 32]) : p = q := by
  simp only [List.cons.injEq, Value.int.injEq, true_and, and_true] at h
  exact Prod.ext h.1 h.2
def cSmp : Contract := fnP (fun p : Int × Int => [.int .i64 p.1, .int .i64 p.2, J 32]) (fun _ => True) (fun _ v => ∃ m n, v = Pv (m : Nat) (n : Nat) ∧ okSm m n)
def Tsp : Table := T0.add 23 cSize
theorem keepTsp : AllKeep Tryz.prog GT Tsp := keepT0.add keepsSize
theorem in6 {m : Nat} (h : m ∈ [1, 2, 4, 8, 16, 32]) (h2 : 2 * m ≤ 32) : 2 * m ∈ [1, 2, 4, 8, 16, 32] := by
  simp only [List.mem_cons, List.not_mem_nil, or_false] at h ⊢
  omega
theorem in5 {m : Nat} (h : m ∈ [1, 2, 4, 8, 16]) (h2 : 2 * m ≤ 16) : 2 * m ∈ [1, 2, 4, 8, 16] := by
  simp only [List.mem_cons, List.not_mem_nil, or_false] at h ⊢
  omega
theorem le6 {m : Nat} (h : m ∈ [1, 2, 4, 8, 16, 32]) : 0 < m ∧ m ≤ 32 := by
  simp only [List.mem_cons, List.not_mem_nil, or_false] at h
  omega
theorem keepsSmp : Keeps1 Tryz.prog GT 19 cSmp := by
  refine keepsP (T := Tsp) (A := ann19) injSp hMix keepTsp hGT (calls_of (by kernel_rfl)) (callsW_of (by kernel_rfl)) fun ⟨bb, cc⟩ w0 _ _ => ⟨[.x (.v 0), .x (.v 1), .x (.v 2)], [], [], 4, env0 [.int .i64 bb, .int .i64 cc, J 32] w0, fun b => b, 0, rfl, rfl, fun X hX => mem_none hX rfl, fun X hP hS hw hX hR => ?_⟩
  subst hw
  rw [vc19 X]
  refine a_agg (cs := [J 0, J 0]) rfl rfl ?_
  intro b0 hb0
  refine a_agg (cs := [J 0, J 0]) rfl rfl ?_
  intro b1 hb1
  refine a_agg (cs := [J 1, J 1]) rfl rfl ?_
  refine a_rest (by decide) (by decide) fun k0 hk0 => ?_
  refine ⟨fun a w => ∃ (k m : Nat), a = [J k, .agg [J m, J 1].toArray] ∧ k < 8 ∧ m ∈ [1, 2, 4, 8, 16, 32] ∧ Kn X w, fun a _ => match a with | i :: _ => intNat i | _ => 0, fun w hw => ⟨k0, 1, rfl, hk0, by simp, hw.kn⟩, ?_⟩
  rintro _ _ w ⟨k, m, he, hk8, hm, hk⟩
  simp only [List.cons.injEq, and_true] at he
  obtain ⟨rfl, rfl⟩ := he
  obtain ⟨m0, m1⟩ := le6 hm
  -- the count, behind the bits
  have second : ∀ {KK : Value → Prop}, KK = KK → (Ask (rBin X.P .rem 3 false true (.int .i64 cc) (J 5)) fun x18 =>
      Ask (rBin X.P .add 3 false true x18 (J 5)) fun x19 =>
      Ask (rBin X.P .rem 3 false true x19 (J 5)) fun x20 =>
      ∃ (I0 : List Value → World → Prop) (μ0 : List Value → World → Nat), (∀ w2, KnownV X w [] (kb19_1 b0 b1 (.agg [J 0, J 0].toArray) (.agg [J m, J 1].toArray)) w2 → I0 [x20, .agg [J m, J 1].toArray] w2) ∧ ∀ x21 x22 w23, I0 [x21, x22] w23 →
        Ask (rBin X.P .gtr 3 false true x21 (J 0)) fun x24 =>
        AskGF X [(x24, true)] 23 [x22] fun x25 =>
        AskG [(x24, true)] (rBin X.P .mul 3 true false (J 2) x25) fun x26 =>
        AskG [(x24, true)] (rBin X.P .leq 3 false false x26 (J 32)) fun x27 =>
        Ask (rPick x24 x27 (.bool false)) fun x28 =>
        (∃ t, x28 = .bool t) ∧ (x28 = .bool true →
          Ask (rSel (aggArr x22) 1 1 false) fun x29 =>
          Ask (rBin X.P .mul 3 true false (J 2) x29) fun x30 =>
          Ask (rUpd (aggArr x22) 1 1 x30) fun x31 =>
          Ask (rBin X.P .sub 3 false true x21 (J 1)) fun x32 =>
          Again X w23 [b1] [] fun w => I0 [x32, x31] w ∧ μ0 [x32, x31] w < μ0 [x21, x22] w23) ∧ (x28 = .bool false →
          Ask (rAgg 2 x22) fun x29 =>
          Ret X w23 [b0] [] x29)) := fun _ => by
    refine a_rest (by decide) (by decide) fun k1 hk1 => ?_
    refine ⟨fun a w => ∃ (k n : Nat), a = [J k, .agg [J m, J n].toArray] ∧ n * 2 ^ k ≤ 16 ∧ n ∈ [1, 2, 4, 8, 16] ∧ m * n ≤ 32 ∧ Kn X w, fun a _ => match a with | i :: _ => intNat i | _ => 0, fun w hw => ⟨k1, 1, rfl, by rw [Nat.one_mul]; exact Nat.pow_le_pow_right (n := 2) (by decide) (show k1 ≤ 4 by omega), by simp, by omega, hw.kn⟩, ?_⟩
    rintro _ _ w2 ⟨k, n, he, hk16, hn, hmn, hk2⟩
    simp only [List.cons.injEq, and_true] at he
    obtain ⟨rfl, rfl⟩ := he
    have done : Ask (rAgg 2 (.agg [J m, J n].toArray)) fun x29 => Ret X w2 [b0] [] x29 := by
      refine a_agg (cs := [J m, J n]) rfl rfl ?_
      exact hR _ _ _ _ ⟨m, n, rfl, okSm_of hm hn hmn⟩
    have hkb : k ≤ 16 := by
      have h1 : k < 2 ^ k := Nat.lt_two_pow_self
      have h2 : 0 < n := by
        simp only [List.mem_cons, List.not_mem_nil, or_false] at hn
        omega
      have h3 : 2 ^ k ≤ n * 2 ^ k := Nat.le_mul_of_pos_left _ h2
      omega
    have hn16 : n ≤ 16 := by
      simp only [List.mem_cons, List.not_mem_nil, or_false] at hn
      omega
    rw [ask_gtrN]
    by_cases h0 : 0 < k
    · rw [decide_eq_true h0]
      refine a_GF_on condsV1 (call_PE hS (T := Tsp) (f := 23) rfl ((m : Int), (n : Int)) trivial ?_)
      dsimp only
      rw [sizeI_nat (show m * n < 2 ^ 63 by omega)]
      refine a_G_on condsV1 ?_
      rw [ask_mulN (by omega)]
      refine a_G_on condsV1 ?_
      rw [ask_leqN, ask_pickT]
      refine a_ifD (fun hle => ?_) fun _ => done
      refine a_sel1 (v := J n) rfl ?_
      rw [ask_mulN (by omega)]
      refine a_updC (cs' := [J m, J (2 * n)]) [J (2 * n)] rfl rfl rfl (by show 1 + 1 ≤ 2; decide) rfl ?_
      rw [ask_subN (by omega) (by omega)]
      intro w6 hw6
      obtain ⟨j, rfl⟩ : ∃ j, k = j + 1 := ⟨k - 1, by omega⟩
      have h2n : 2 * n * 2 ^ j ≤ 16 := by rw [Nat.pow_succ] at hk16; rw [Nat.mul_comm 2 n, Nat.mul_assoc, Nat.mul_comm 2]; exact hk16
      refine ⟨⟨j, 2 * n, by rw [Nat.add_sub_cancel], h2n, in5 hn (Nat.le_trans (Nat.le_mul_of_pos_right _ (Nat.pow_pos (by decide))) h2n), by rw [Nat.mul_left_comm]; exact hle, hw6.kn⟩, by simp [intNat]⟩
    · rw [decide_eq_false h0]
      refine a_GF_off (condsV1_not (by decide)) fun _ => ?_
      refine a_G_off (condsV1_not (by decide)) fun _ => ?_
      refine a_G_off (condsV1_not (by decide)) fun _ => ?_
      rw [ask_pickF]
      exact a_if (fun h => by cases h) fun _ => done
  rw [ask_gtrN]
  by_cases h0 : 0 < k
  · rw [decide_eq_true h0]
    refine a_GF_on condsV1 (call_PE hS (T := Tsp) (f := 23) rfl ((m : Int), ((1 : Nat) : Int)) trivial ?_)
    dsimp only
    rw [sizeI_nat (show m * 1 < 2 ^ 63 by omega)]
    refine a_G_on condsV1 ?_
    rw [ask_mulN (by omega)]
    refine a_G_on condsV1 ?_
    rw [ask_leqN, ask_pickT]
    refine a_ifD (fun hle => ?_) fun _ => second (KK := fun _ => True) rfl
    refine a_sel1 (v := J m) rfl ?_
    rw [ask_mulN (by omega)]
    refine a_updC (cs' := [J (2 * m), J 1]) [J (2 * m)] rfl rfl rfl (by show 0 + 1 ≤ 2; decide) rfl ?_
    rw [ask_subN (by omega) (by omega)]
    intro w6 hw6
    exact ⟨⟨k - 1, 2 * m, rfl, by omega, in6 hm (by omega), hw6.kn⟩, by simp [intNat]; omega⟩
  · rw [decide_eq_false h0]
    refine a_GF_off (condsV1_not (by decide)) fun _ => ?_
    refine a_G_off (condsV1_not (by decide)) fun _ => ?_
    refine a_G_off (condsV1_not (by decide)) fun _ => ?_
    rw [ask_pickF]
    exact a_if (fun h => by cases h) fun _ => second (KK := fun _ => True) rfl
/-! ### a case cut to size -/
def cCsP : Cods (Cs × Nat × Nat) := ⟨fun w l a => ∃ v, l = [v, Pv a.2.1 a.2.2] ∧ cCs.rd w [v] a.1, fun w l ⟨a, m, n⟩ ⟨a', m', n'⟩ ⟨v, e, h⟩ ⟨v', e', h'⟩ => by
  rw [e] at e'
  simp only [List.cons.injEq, and_true] at e'
  obtain ⟨rfl, e2⟩ := e'
  obtain ⟨q1, q2⟩ := Pv_inj e2
  have q3 := cCs.inj _ _ _ _ h h'
  dsimp only at q1 q2 q3
  rw [q3, Int.ofNat.inj q1, Int.ofNat.inj q2]⟩
def ann20 : Ann := ⟨[], [23, 24], 70, [(22, false), (21, false)], [], none, [], []⟩
def kb20_0 (b0 b1 b2 : Nat) (x4 x1 x2 : Value) : List KB := [⟨b0, true, 27, (aggArr x4)⟩, ⟨b1, true, 45, #[x1, x2]⟩, ⟨b2, true, 42, #[(U 0), (U 0), (U 0), (U 0), (U 0), (U 0), (U 0), (U 0), (U 0), (U 0), (U 0), (U 0), (.slice none 0 0), (.slice none 0 0)]⟩]
theorem vc20 (X : Ctx) (β : Nat → Nat) (x0 x1 x2 : Value) : (run Tryz.prog ann20 20 [.x (.v 0), .l [.v 1, .v 2]] [] [] 4).den X (env0 [x0, x1, x2] X.w0) 4 β 0 (fun _ _ _ => False) = (
 Ask (rAgg 67 x0) fun x4 =>
 AskNew X.w0 fun b0 =>
 AskNew X.w0 fun b1 =>
 AskNew X.w0 fun b2 =>
 Ask (rSel (aggArr x4) 2 4 true) fun x5 =>
 AskF X 24 [x5] fun x6 =>
 Ask (rSel (aggArr x4) 6 4 true) fun x7 =>
 AskF X 24 [x7] fun x8 =>
 Ask (rSel (aggArr x4) 10 4 true) fun x9 =>
 AskF X 24 [x9] fun x10 =>
 Ask (rSel (aggArr x4) 14 1 false) fun x11 =>
 AskF X 23 [(.agg #[x1, x2])] fun x12 =>
 AskW X X.w0 [] (kb20_0 b0 b1 b2 x4 x1 x2) false 22 [x11, x12] fun x13 w13 =>
 AskW X w13 [] (kb20_0 b0 b1 b2 x4 x1 x2) false 21 [x13] fun x14 w14 =>
 Ask (rSel (aggArr x4) 15 1 false) fun x15 =>
 AskF X 23 [(.agg #[x1, x2])] fun x16 =>
 AskW X w14 [] (kb20_0 b0 b1 b2 x4 x1 x2) false 22 [x15, x16] fun x17 w17 =>
 AskW X w17 [] (kb20_0 b0 b1 b2 x4 x1 x2) false 21 [x17] fun x18 w18 =>
 Ask (rAgg 4 x6) fun x19 =>
 Ask (rSel (aggArr x19) 0 1 false) fun x20 =>
 Ask (rSel (aggArr x19) 1 1 false) fun x21 =>
 Ask (rSel (aggArr x19) 2 1 false) fun x22 =>
 Ask (rSel (aggArr x19) 3 1 false) fun x23 =>
 Ask (rAgg 4 x8) fun x24 =>
 Ask (rSel (aggArr x24) 0 1 false) fun x25 =>
 Ask (rSel (aggArr x24) 1 1 false) fun x26 =>
 Ask (rSel (aggArr x24) 2 1 false) fun x27 =>
 Ask (rSel (aggArr x24) 3 1 false) fun x28 =>
 Ask (rAgg 4 x10) fun x29 =>
 Ask (rSel (aggArr x29) 0 1 false) fun x30 =>
 Ask (rSel (aggArr x29) 1 1 false) fun x31 =>
 Ask (rSel (aggArr x29) 2 1 false) fun x32 =>
 Ask (rSel (aggArr x29) 3 1 false) fun x33 =>
 Ask (rPlain x14) fun x34 =>
 Ask (rPlain x18) fun x35 =>
 Ask (rPlain x20) fun x36 =>
 Ask (rPlain x21) fun x37 =>
 Ask (rPlain x22) fun x38 =>
 Ask (rPlain x23) fun x39 =>
 Ask (rPlain x25) fun x40 =>
 Ask (rPlain x26) fun x41 =>
 Ask (rPlain x27) fun x42 =>
 Ask (rPlain x28) fun x43 =>
 Ask (rPlain x30) fun x44 =>
 Ask (rPlain x31) fun x45 =>
 Ask (rPlain x32) fun x46 =>
 Ask (rPlain x33) fun x47 =>
 Ask (rPlain x34) fun x48 =>
 Ask (rPlain x35) fun x49 =>
 Ret X w18 [b2] [] (.agg #[x36, x37, x38, x39, x40, x41, x42, x43, x44, x45, x46, x47, x48, x49])) := by kernel_rfl
def fulP (d : Cs) (N : Nat) : SetN := (d.B, d.Bl, d.Q, mapN (filV d.G) N, mapN (filV d.H) N)
def cFul : Contract := fnW cCsP (fun a _ => okSm a.2.1 a.2.2) (fun a w v w' => ∃ g h, v = .agg (setL (fulP a.1 (a.2.1 * a.2.2)) g h).toArray ∧ w'.ownsRow w.heap.size 31 4 g (a.2.1 * a.2.2) ((mapN (filV a.1.G) (a.2.1 * a.2.2)).flatMap encS) ∧ w'.ownsRow w.heap.size 31 4 h (a.2.1 * a.2.2) ((mapN (filV a.1.H) (a.2.1 * a.2.2)).flatMap encS))
def Tfu : Table := (((T0.add 23 cSize).add 24 cSame1).add 22 cFil).add 21 cLof
theorem keepTfu : AllKeep Tryz.prog GT Tfu := (((keepT0.add keepsSize).add keepsLn1).add keepsFil).add keepsLof
theorem keepsFul : Keeps1 Tryz.prog GT 20 cFul := by
  refine keepsW (T := Tfu) (A := ann20) hMix keepTfu hGT (calls_of (by kernel_rfl)) (callsW_of (by kernel_rfl)) fun args ⟨d, m, n⟩ w0 hrd hpre hg => ?_
  obtain ⟨_, rfl, g, h, v, bl, c, sl, sr, l, r, e, ok, at0⟩ := hrd
  simp only [List.cons.injEq, and_true] at e
  subst e
  obtain ⟨m0, m1, n0, n1, mn, _⟩ := hpre
  dsimp only at m0 m1 n0 n1 mn
  refine ⟨[.x (.v 0), .l [.v 1, .v 2]], [], [], 4, env0 [.agg (csL d g h v bl c sl sr l r).toArray, J m, J n] w0, fun b => b, 0, rfl, rfl, fun X hX => mem_none hX rfl, fun X hP hS hw hX hR => ?_⟩
  subst hw; try dsimp only at hR
  rw [vc20 X]
  refine a_agg (csL_len _ _ _ _ _ _ _ _ _ _) at0.one ?_
  intro b0 hb0 b1 hb1 b2 hb2
  obtain ⟨N, eN⟩ : ∃ N, N = m * n := ⟨_, rfl⟩
  have size : ∀ {K : Value → Prop}, K (J N) → AskF X 23 [.agg #[J m, J n]] K := fun hK => call_PE hS (T := Tfu) (f := 23) rfl ((m : Int), (n : Int)) trivial (by dsimp only; rw [sizeI_nat (by omega), ← eN]; exact hK)
  refine a_selL (ds := encS d.B) (by kernel_rfl) (by rw [csL_len]; omega) ?_
  refine call_PE hS (T := Tfu) (f := 24) rfl d.B ok.B ?_
  refine a_selL (ds := encS d.Bl) (by kernel_rfl) (by rw [csL_len]; omega) ?_
  refine call_PE hS (T := Tfu) (f := 24) rfl d.Bl ok.Bl ?_
  refine a_selL (ds := encS d.Q) (by kernel_rfl) (by rw [csL_len]; omega) ?_
  refine call_PE hS (T := Tfu) (f := 24) rfl d.Q ok.Q ?_
  refine a_sel1 (v := g) (by kernel_rfl) (size ?_)
  refine call_W hX hS (T := Tfu) (f := 22) rfl (d.G, N, ()) (fun w hw => ⟨⟨_, _, rfl, (at0.stp0 hw.stp).g, _, _, rfl, rfl, rfl⟩, by show N ≤ 64; omega⟩) fun x1 u1 w1 h1 k1 s1 su1 o1 => ?_
  dsimp only at o1
  refine call_W hX hS (T := Tfu) (f := 21) rfl (mapN (filV d.G) N, ()) (fun w hw => ⟨⟨_, _, rfl, ⟨by rw [mapN_len]; exact (own_slAt o1).stp0 hw.stp, ls_filV at0.g.2 (by omega)⟩, rfl⟩, by show (mapN _ N).length ≤ 1000; rw [mapN_len]; omega⟩) fun x2 u2 w2 h2 k2 s2 su2 o2 => ?_
  dsimp only at o2
  rw [mapN_len] at o2
  refine a_sel1 (v := h) (by kernel_rfl) (size ?_)
  refine call_W hX hS (T := Tfu) (f := 22) rfl (d.H, N, ()) (fun w hw => ⟨⟨_, _, rfl, (at0.stp0 (su1.trans0 (su2.trans0 hw.stp))).h, _, _, rfl, rfl, rfl⟩, by show N ≤ 64; omega⟩) fun x3 u3 w3 h3 k3 s3 su3 o3 => ?_
  dsimp only at o3
  refine call_W hX hS (T := Tfu) (f := 21) rfl (mapN (filV d.H) N, ()) (fun w hw => ⟨⟨_, _, rfl, ⟨by rw [mapN_len]; exact (own_slAt o3).stp0 hw.stp, ls_filV at0.h.2 (by omega)⟩, rfl⟩, by show (mapN _ N).length ≤ 1000; rw [mapN_len]; omega⟩) fun x4 u4 w4 h4 k4 s4 su4 o4 => ?_
  dsimp only at o4
  rw [mapN_len] at o4
  rw [ask_aggS, ask_selS0, ask_selS1, ask_selS2, ask_selS3, ask_aggS, ask_selS0, ask_selS1, ask_selS2, ask_selS3, ask_aggS, ask_selS0, ask_selS1, ask_selS2, ask_selS3]
  have c2 := own_one o2
  have c4 := own_one o4
  have z2 := h2.sz0
  have z4 := h4.sz0
  have lo : b2 < u1.heap.size := h1.low (by simp [kb20_0])
  have l1 := s1.size
  have l2 := h2.size
  have l3 := su3.size
  have l4 := h4.size
  have l5 := su2.size
  have off : ∀ {v : Value} {xs : List Value} {w : World} {n e s base : Nat}, w.ownsRow base e s v n xs → b2 < base → ∀ q, v.ownBlock = some q → q ∉ [b2] := fun ho hb q hq hm => by
    have := ho.lt q hq
    simp only [List.mem_singleton] at hm
    omega
  have fin : ∀ {K : Value → Prop}, K (.agg (setL (fulP d N) x2 x4).toArray) → K (.agg (setL (fulP d N) x2 x4).toArray) := id
  first
    | (iterate 16 first | rw [ask_uplain] | refine a_plain c2 ?_ | refine a_plain c4 ?_)
  refine hR _ _ _ _ fun wf hwf => ⟨x2, x4, rfl, ?_, ?_⟩
  · show wf.ownsRow _ _ _ _ (m * n) ((mapN _ (m * n)).flatMap _)
    rw [← eN]
    exact own_mono (own_stp (own_stp0 o2 (su3.trans0 su4)) hwf.stp (off o2 (by omega))) z2
  · show wf.ownsRow _ _ _ _ (m * n) ((mapN _ (m * n)).flatMap _)
    rw [← eN]
    exact own_mono (own_stp o4 hwf.stp (off o4 (by omega))) z4
#print axioms keepsFul
end Go.Vc

/-
  A case's openings and tape, cut to size.
-/
namespace Go.Vc
open Go Go.Proofs Go.RowKit
def rgtV (d : Cs) (m j : Nat) : Nat := (if j < d.V.length then d.V.getD j 0 else j * 11400714819323198485 % B64) % 2 ^ m
def rgtO (d : Cs) (m j : Nat) : Nat × Nat := (rgtV d m j, filV d.Bs j)
def rgtT (d : Cs) (N : Nat) : TpN := (d.al, d.rho, d.t1, d.t2, mapN (filV d.SL) N, mapN (filV d.SR) N)
def rgtP (d : Cs) (m n : Nat) : List (Nat × Nat) := mapN (rgtO d m) n
def ann32 : Ann := ⟨[(4, ([6, 8], []))], [86, 23], 70, [(22, false)], [], none, [1000012], []⟩
def kb32_0 (b0 b1 b2 : Nat) (x4 x1 x2 : Value) : List KB := [⟨b0, true, 27, (aggArr x4)⟩, ⟨b1, true, 45, #[x1, x2]⟩, ⟨b2, true, 36, #[(U 0), (U 0), (U 0), (U 0), (U 0), (U 0), (U 0), (U 0), (U 0), (U 0), (U 0), (U 0), (U 0), (U 0), (U 0), (U 0), (.slice none 0 0), (.slice none 0 0)]⟩]
def kb32_1 (b0 b1 b2 b3 : Nat) (x4 x1 x2 : Value) : List KB := [⟨b0, true, 27, (aggArr x4)⟩, ⟨b1, true, 45, #[x1, x2]⟩, ⟨b2, true, 36, #[(U 0), (U 0), (U 0), (U 0), (U 0), (U 0), (U 0), (U 0), (U 0), (U 0), (U 0), (U 0), (U 0), (U 0), (U 0), (U 0), (.slice none 0 0), (.slice none 0 0)]⟩, ⟨b3, true, 36, #[(U 0), (U 0), (U 0), (U 0), (U 0), (U 0), (U 0), (U 0), (U 0), (U 0), (U 0), (U 0), (U 0), (U 0), (U 0), (U 0), (.slice none 0 0), (.slice none 0 0)]⟩]
theorem vc32 (X : Ctx) (β : Nat → Nat) (x0 x1 x2 : Value) : (run Tryz.prog ann32 32 [.x (.v 0), .l [.v 1, .v 2]] [] [] 4).den X (env0 [x0, x1, x2] X.w0) 4 β 0 (fun _ _ _ => False) = (
 Ask (rAgg 67 x0) fun x4 =>
 AskNew X.w0 fun b0 =>
 AskNew X.w0 fun b1 =>
 AskNew X.w0 fun b2 =>
 Ask (rSel (aggArr x4) 17 1 false) fun x5 =>
 AskW X X.w0 [] (kb32_0 b0 b1 b2 x4 x1 x2) false 22 [x5, x2] fun x6 w6 =>
 ∃ (I0 : List Value → World → Prop) (μ0 : List Value → World → Nat), (∀ w, KnownV X w6 [] (kb32_0 b0 b1 b2 x4 x1 x2) w → I0 [(.slice none 0 0), (J 0)] w) ∧ ∀ x7 x8 w9, I0 [x7, x8] w9 →
 Ask (rBin X.P .lss 3 false false x8 x2) fun x10 =>
 (∃ t, x10 = .bool t) ∧ (x10 = .bool true →
 Ask (rConv X.P 3 22 x8) fun x11 =>
 Ask (rBin X.P .mul 22 false true x11 (U 11400714819323198485)) fun x12 =>
 Ask (rSel (aggArr x4) 16 1 false) fun x13 =>
 Ask (rLen X.P 25 x13) fun x14 =>
 Ask (rBin X.P .lss 3 false false x8 x14) fun x15 =>
 (∃ t, x15 = .bool t) ∧ (x15 = .bool true →
 Ask (rSel (aggArr x4) 16 1 false) fun x16 =>
 Ask (rIad X.P 25 x16 x8) fun x17 =>
 Ask (rLoad X w9 [] 22 x17) fun x18 =>
 AskF X 86 [(.agg #[x1, x2])] fun x19 =>
 Ask (rExt X.P x19 0) fun x20 =>
 Ask (rExt X.P x19 1) fun x21 =>
 (∃ t, x21 = .bool t) ∧ (x21 = .bool true →
 Ask (rBin X.P .rem 22 false false x18 x20) fun x22 =>
 Ask (rIad X.P 28 x6 x8) fun x23 =>
 Ask (rLoad X w9 [] 29 x23) fun x24 =>
 Ask (rPlain x22) fun x25 =>
 Ask (rAgg 4 x24) fun x26 =>
 Ask (rSel (aggArr x26) 0 1 false) fun x27 =>
 Ask (rSel (aggArr x26) 1 1 false) fun x28 =>
 Ask (rSel (aggArr x26) 2 1 false) fun x29 =>
 Ask (rSel (aggArr x26) 3 1 false) fun x30 =>
 AskO X w9 [] (kb32_0 b0 b1 b2 x4 x1 x2) false (Op.buildSlice 47 1 #[(0, Operand.tmp 52)]) 47 [(52, (.agg #[x25, x27, x28, x29, x30]))] fun x31 w31 =>
 AskO X w31 [] (kb32_0 b0 b1 b2 x4 x1 x2) true (appOp (.tmp 46) (.tmp 53) 47) 47 [(46, x7), (53, x31)] fun x32 w32 =>
 Ask (rBin X.P .add 3 false true x8 (J 1)) fun x33 =>
 Again X w32 [] [] fun w => I0 [x32, x33] w ∧ μ0 [x32, x33] w < μ0 [x7, x8] w9) ∧ (x21 = .bool false →
 Ask (rIad X.P 28 x6 x8) fun x22 =>
 Ask (rLoad X w9 [] 29 x22) fun x23 =>
 Ask (rPlain x18) fun x24 =>
 Ask (rAgg 4 x23) fun x25 =>
 Ask (rSel (aggArr x25) 0 1 false) fun x26 =>
 Ask (rSel (aggArr x25) 1 1 false) fun x27 =>
 Ask (rSel (aggArr x25) 2 1 false) fun x28 =>
 Ask (rSel (aggArr x25) 3 1 false) fun x29 =>
 AskO X w9 [] (kb32_0 b0 b1 b2 x4 x1 x2) false (Op.buildSlice 47 1 #[(0, Operand.tmp 52)]) 47 [(52, (.agg #[x24, x26, x27, x28, x29]))] fun x30 w30 =>
 AskO X w30 [] (kb32_0 b0 b1 b2 x4 x1 x2) true (appOp (.tmp 46) (.tmp 53) 47) 47 [(46, x7), (53, x30)] fun x31 w31 =>
 Ask (rBin X.P .add 3 false true x8 (J 1)) fun x32 =>
 Again X w31 [] [] fun w => I0 [x31, x32] w ∧ μ0 [x31, x32] w < μ0 [x7, x8] w9)) ∧ (x15 = .bool false →
 AskF X 86 [(.agg #[x1, x2])] fun x16 =>
 Ask (rExt X.P x16 0) fun x17 =>
 Ask (rExt X.P x16 1) fun x18 =>
 (∃ t, x18 = .bool t) ∧ (x18 = .bool true →
 Ask (rBin X.P .rem 22 false false x12 x17) fun x19 =>
 Ask (rIad X.P 28 x6 x8) fun x20 =>
 Ask (rLoad X w9 [] 29 x20) fun x21 =>
 Ask (rPlain x19) fun x22 =>
 Ask (rAgg 4 x21) fun x23 =>
 Ask (rSel (aggArr x23) 0 1 false) fun x24 =>
 Ask (rSel (aggArr x23) 1 1 false) fun x25 =>
 Ask (rSel (aggArr x23) 2 1 false) fun x26 =>
 Ask (rSel (aggArr x23) 3 1 false) fun x27 =>
 AskO X w9 [] (kb32_0 b0 b1 b2 x4 x1 x2) false (Op.buildSlice 47 1 #[(0, Operand.tmp 52)]) 47 [(52, (.agg #[x22, x24, x25, x26, x27]))] fun x28 w28 =>
 AskO X w28 [] (kb32_0 b0 b1 b2 x4 x1 x2) true (appOp (.tmp 46) (.tmp 53) 47) 47 [(46, x7), (53, x28)] fun x29 w29 =>
 Ask (rBin X.P .add 3 false true x8 (J 1)) fun x30 =>
 Again X w29 [] [] fun w => I0 [x29, x30] w ∧ μ0 [x29, x30] w < μ0 [x7, x8] w9) ∧ (x18 = .bool false →
 Ask (rIad X.P 28 x6 x8) fun x19 =>
 Ask (rLoad X w9 [] 29 x19) fun x20 =>
 Ask (rPlain x12) fun x21 =>
 Ask (rAgg 4 x20) fun x22 =>
 Ask (rSel (aggArr x22) 0 1 false) fun x23 =>
 Ask (rSel (aggArr x22) 1 1 false) fun x24 =>
 Ask (rSel (aggArr x22) 2 1 false) fun x25 =>
 Ask (rSel (aggArr x22) 3 1 false) fun x26 =>
 AskO X w9 [] (kb32_0 b0 b1 b2 x4 x1 x2) false (Op.buildSlice 47 1 #[(0, Operand.tmp 52)]) 47 [(52, (.agg #[x21, x23, x24, x25, x26]))] fun x27 w27 =>
 AskO X w27 [] (kb32_0 b0 b1 b2 x4 x1 x2) true (appOp (.tmp 46) (.tmp 53) 47) 47 [(46, x7), (53, x27)] fun x28 w28 =>
 Ask (rBin X.P .add 3 false true x8 (J 1)) fun x29 =>
 Again X w28 [] [] fun w => I0 [x28, x29] w ∧ μ0 [x28, x29] w < μ0 [x7, x8] w9))) ∧ (x10 = .bool false →
 ((
 ((
 Ask (rSel (aggArr x4) 31 4 true) fun x11 =>
 Ask (rSel (aggArr x4) 35 4 true) fun x12 =>
 Ask (rSel (aggArr x4) 39 4 true) fun x13 =>
 Ask (rSel (aggArr x4) 43 4 true) fun x14 =>
 Ask (rSel (aggArr x4) 47 1 false) fun x15 =>
 AskF X 23 [(.agg #[x1, x2])] fun x16 =>
 AskW X w9 [] (kb32_0 b0 b1 b2 x4 x1 x2) false 22 [x15, x16] fun x17 w17 =>
 Ask (rSel (aggArr x4) 48 1 false) fun x18 =>
 AskF X 23 [(.agg #[x1, x2])] fun x19 =>
 AskW X w17 [] (kb32_0 b0 b1 b2 x4 x1 x2) false 22 [x18, x19] fun x20 w20 =>
 Ask (rAgg 4 x11) fun x21 =>
 Ask (rSel (aggArr x21) 0 1 false) fun x22 =>
 Ask (rSel (aggArr x21) 1 1 false) fun x23 =>
 Ask (rSel (aggArr x21) 2 1 false) fun x24 =>
 Ask (rSel (aggArr x21) 3 1 false) fun x25 =>
 Ask (rAgg 4 x12) fun x26 =>
 Ask (rSel (aggArr x26) 0 1 false) fun x27 =>
 Ask (rSel (aggArr x26) 1 1 false) fun x28 =>
 Ask (rSel (aggArr x26) 2 1 false) fun x29 =>
 Ask (rSel (aggArr x26) 3 1 false) fun x30 =>
 Ask (rAgg 4 x13) fun x31 =>
 Ask (rSel (aggArr x31) 0 1 false) fun x32 =>
 Ask (rSel (aggArr x31) 1 1 false) fun x33 =>
 Ask (rSel (aggArr x31) 2 1 false) fun x34 =>
 Ask (rSel (aggArr x31) 3 1 false) fun x35 =>
 Ask (rAgg 4 x14) fun x36 =>
 Ask (rSel (aggArr x36) 0 1 false) fun x37 =>
 Ask (rSel (aggArr x36) 1 1 false) fun x38 =>
 Ask (rSel (aggArr x36) 2 1 false) fun x39 =>
 Ask (rSel (aggArr x36) 3 1 false) fun x40 =>
 Ask (rPlain x17) fun x41 =>
 Ask (rPlain x20) fun x42 =>
 AskNew w20 fun b3 =>
 Ask (rPlain x22) fun x43 =>
 Ask (rPlain x23) fun x44 =>
 Ask (rPlain x24) fun x45 =>
 Ask (rPlain x25) fun x46 =>
 Ask (rPlain x27) fun x47 =>
 Ask (rPlain x28) fun x48 =>
 Ask (rPlain x29) fun x49 =>
 Ask (rPlain x30) fun x50 =>
 Ask (rPlain x32) fun x51 =>
 Ask (rPlain x33) fun x52 =>
 Ask (rPlain x34) fun x53 =>
 Ask (rPlain x35) fun x54 =>
 Ask (rPlain x37) fun x55 =>
 Ask (rPlain x38) fun x56 =>
 Ask (rPlain x39) fun x57 =>
 Ask (rPlain x40) fun x58 =>
 Ask (rPlain x41) fun x59 =>
 Ask (rPlain x42) fun x60 =>
 Ask (rPlain x43) fun x61 =>
 Ask (rPlain x44) fun x62 =>
 Ask (rPlain x45) fun x63 =>
 Ask (rPlain x46) fun x64 =>
 Ask (rPlain x47) fun x65 =>
 Ask (rPlain x48) fun x66 =>
 Ask (rPlain x49) fun x67 =>
 Ask (rPlain x50) fun x68 =>
 Ask (rPlain x51) fun x69 =>
 Ask (rPlain x52) fun x70 =>
 Ask (rPlain x53) fun x71 =>
 Ask (rPlain x54) fun x72 =>
 Ask (rPlain x55) fun x73 =>
 Ask (rPlain x56) fun x74 =>
 Ask (rPlain x57) fun x75 =>
 Ask (rPlain x58) fun x76 =>
 Ask (rPlain x59) fun x77 =>
 Ask (rPlain x60) fun x78 =>
 Ret X w20 [b2, b3] [] (.tuple #[x7, (.agg #[x61, x62, x63, x64, x65, x66, x67, x68, x69, x70, x71, x72, x73, x74, x75, x76, x77, x78])])) ∧ (
 Ask (rSel (aggArr x4) 47 1 false) fun x11 =>
 AskF X 23 [(.agg #[x1, x2])] fun x12 =>
 AskW X w9 [] (kb32_0 b0 b1 b2 x4 x1 x2) false 22 [x11, x12] fun x13 w13 =>
 AskNew w13 fun b3 =>
 Ask (rSel (aggArr x4) 31 4 true) fun x14 =>
 Ask (rSel (aggArr x4) 35 4 true) fun x15 =>
 Ask (rSel (aggArr x4) 39 4 true) fun x16 =>
 Ask (rSel (aggArr x4) 43 4 true) fun x17 =>
 Ask (rSel (aggArr x4) 48 1 false) fun x18 =>
 AskF X 23 [(.agg #[x1, x2])] fun x19 =>
 AskW X w13 [] (kb32_1 b0 b1 b2 b3 x4 x1 x2) false 22 [x18, x19] fun x20 w20 =>
 Ask (rAgg 4 x14) fun x21 =>
 Ask (rSel (aggArr x21) 0 1 false) fun x22 =>
 Ask (rSel (aggArr x21) 1 1 false) fun x23 =>
 Ask (rSel (aggArr x21) 2 1 false) fun x24 =>
 Ask (rSel (aggArr x21) 3 1 false) fun x25 =>
 Ask (rAgg 4 x15) fun x26 =>
 Ask (rSel (aggArr x26) 0 1 false) fun x27 =>
 Ask (rSel (aggArr x26) 1 1 false) fun x28 =>
 Ask (rSel (aggArr x26) 2 1 false) fun x29 =>
 Ask (rSel (aggArr x26) 3 1 false) fun x30 =>
 Ask (rAgg 4 x16) fun x31 =>
 Ask (rSel (aggArr x31) 0 1 false) fun x32 =>
 Ask (rSel (aggArr x31) 1 1 false) fun x33 =>
 Ask (rSel (aggArr x31) 2 1 false) fun x34 =>
 Ask (rSel (aggArr x31) 3 1 false) fun x35 =>
 Ask (rAgg 4 x17) fun x36 =>
 Ask (rSel (aggArr x36) 0 1 false) fun x37 =>
 Ask (rSel (aggArr x36) 1 1 false) fun x38 =>
 Ask (rSel (aggArr x36) 2 1 false) fun x39 =>
 Ask (rSel (aggArr x36) 3 1 false) fun x40 =>
 Ask (rPlain x13) fun x41 =>
 Ask (rPlain x20) fun x42 =>
 Ask (rPlain x22) fun x43 =>
 Ask (rPlain x23) fun x44 =>
 Ask (rPlain x24) fun x45 =>
 Ask (rPlain x25) fun x46 =>
 Ask (rPlain x27) fun x47 =>
 Ask (rPlain x28) fun x48 =>
 Ask (rPlain x29) fun x49 =>
 Ask (rPlain x30) fun x50 =>
 Ask (rPlain x32) fun x51 =>
 Ask (rPlain x33) fun x52 =>
 Ask (rPlain x34) fun x53 =>
 Ask (rPlain x35) fun x54 =>
 Ask (rPlain x37) fun x55 =>
 Ask (rPlain x38) fun x56 =>
 Ask (rPlain x39) fun x57 =>
 Ask (rPlain x40) fun x58 =>
 Ask (rPlain x41) fun x59 =>
 Ask (rPlain x42) fun x60 =>
 Ask (rPlain x43) fun x61 =>
 Ask (rPlain x44) fun x62 =>
 Ask (rPlain x45) fun x63 =>
 Ask (rPlain x46) fun x64 =>
 Ask (rPlain x47) fun x65 =>
 Ask (rPlain x48) fun x66 =>
 Ask (rPlain x49) fun x67 =>
 Ask (rPlain x50) fun x68 =>
 Ask (rPlain x51) fun x69 =>
 Ask (rPlain x52) fun x70 =>
 Ask (rPlain x53) fun x71 =>
 Ask (rPlain x54) fun x72 =>
 Ask (rPlain x55) fun x73 =>
 Ask (rPlain x56) fun x74 =>
 Ask (rPlain x57) fun x75 =>
 Ask (rPlain x58) fun x76 =>
 Ask (rPlain x59) fun x77 =>
 Ask (rPlain x60) fun x78 =>
 Ret X w20 [b2, b3] [] (.tuple #[x7, (.agg #[x61, x62, x63, x64, x65, x66, x67, x68, x69, x70, x71, x72, x73, x74, x75, x76, x77, x78])])))) ∧ (
 AskNew w9 fun b3 =>
 Ask (rSel (aggArr x4) 31 4 true) fun x11 =>
 Ask (rSel (aggArr x4) 35 4 true) fun x12 =>
 Ask (rSel (aggArr x4) 39 4 true) fun x13 =>
 Ask (rSel (aggArr x4) 43 4 true) fun x14 =>
 Ask (rSel (aggArr x4) 47 1 false) fun x15 =>
 AskF X 23 [(.agg #[x1, x2])] fun x16 =>
 AskW X w9 [] (kb32_1 b0 b1 b2 b3 x4 x1 x2) false 22 [x15, x16] fun x17 w17 =>
 Ask (rSel (aggArr x4) 48 1 false) fun x18 =>
 AskF X 23 [(.agg #[x1, x2])] fun x19 =>
 AskW X w17 [] (kb32_1 b0 b1 b2 b3 x4 x1 x2) false 22 [x18, x19] fun x20 w20 =>
 Ask (rAgg 4 x11) fun x21 =>
 Ask (rSel (aggArr x21) 0 1 false) fun x22 =>
 Ask (rSel (aggArr x21) 1 1 false) fun x23 =>
 Ask (rSel (aggArr x21) 2 1 false) fun x24 =>
 Ask (rSel (aggArr x21) 3 1 false) fun x25 =>
 Ask (rAgg 4 x12) fun x26 =>
 Ask (rSel (aggArr x26) 0 1 false) fun x27 =>
 Ask (rSel (aggArr x26) 1 1 false) fun x28 =>
 Ask (rSel (aggArr x26) 2 1 false) fun x29 =>
 Ask (rSel (aggArr x26) 3 1 false) fun x30 =>
 Ask (rAgg 4 x13) fun x31 =>
 Ask (rSel (aggArr x31) 0 1 false) fun x32 =>
 Ask (rSel (aggArr x31) 1 1 false) fun x33 =>
 Ask (rSel (aggArr x31) 2 1 false) fun x34 =>
 Ask (rSel (aggArr x31) 3 1 false) fun x35 =>
 Ask (rAgg 4 x14) fun x36 =>
 Ask (rSel (aggArr x36) 0 1 false) fun x37 =>
 Ask (rSel (aggArr x36) 1 1 false) fun x38 =>
 Ask (rSel (aggArr x36) 2 1 false) fun x39 =>
 Ask (rSel (aggArr x36) 3 1 false) fun x40 =>
 Ask (rPlain x17) fun x41 =>
 Ask (rPlain x20) fun x42 =>
 Ask (rPlain x22) fun x43 =>
 Ask (rPlain x23) fun x44 =>
 Ask (rPlain x24) fun x45 =>
 Ask (rPlain x25) fun x46 =>
 Ask (rPlain x27) fun x47 =>
 Ask (rPlain x28) fun x48 =>
 Ask (rPlain x29) fun x49 =>
 Ask (rPlain x30) fun x50 =>
 Ask (rPlain x32) fun x51 =>
 Ask (rPlain x33) fun x52 =>
 Ask (rPlain x34) fun x53 =>
 Ask (rPlain x35) fun x54 =>
 Ask (rPlain x37) fun x55 =>
 Ask (rPlain x38) fun x56 =>
 Ask (rPlain x39) fun x57 =>
 Ask (rPlain x40) fun x58 =>
 Ask (rPlain x41) fun x59 =>
 Ask (rPlain x42) fun x60 =>
 Ask (rPlain x43) fun x61 =>
 Ask (rPlain x44) fun x62 =>
 Ask (rPlain x45) fun x63 =>
 Ask (rPlain x46) fun x64 =>
 Ask (rPlain x47) fun x65 =>
 Ask (rPlain x48) fun x66 =>
 Ask (rPlain x49) fun x67 =>
 Ask (rPlain x50) fun x68 =>
 Ask (rPlain x51) fun x69 =>
 Ask (rPlain x52) fun x70 =>
 Ask (rPlain x53) fun x71 =>
 Ask (rPlain x54) fun x72 =>
 Ask (rPlain x55) fun x73 =>
 Ask (rPlain x56) fun x74 =>
 Ask (rPlain x57) fun x75 =>
 Ask (rPlain x58) fun x76 =>
 Ask (rPlain x59) fun x77 =>
 Ask (rPlain x60) fun x78 =>
 Ret X w20 [b2, b3] [] (.tuple #[x7, (.agg #[x61, x62, x63, x64, x65, x66, x67, x68, x69, x70, x71, x72, x73, x74, x75, x76, x77, x78])]))))) := by kernel_rfl
def cRgt : Contract := fnW cCsP (fun a _ => okSm a.2.1 a.2.2) (fun a w v w' => ∃ vs l r, v = .tuple #[vs, .agg (tpN (rgtT a.1 (a.2.1 * a.2.2)) l r).toArray] ∧ w'.ownsRow w.heap.size 116 5 vs a.2.2 ((rgtP a.1 a.2.1 a.2.2).flatMap encO) ∧ w'.ownsRow w.heap.size 29 4 l (a.2.1 * a.2.2) ((mapN (filV a.1.SL) (a.2.1 * a.2.2)).flatMap encS) ∧ w'.ownsRow w.heap.size 29 4 r (a.2.1 * a.2.2) ((mapN (filV a.1.SR) (a.2.1 * a.2.2)).flatMap encS))
def Trg : Table := ((T0.add 23 cSize).add 86 cTop).add 22 cFil
theorem keepTrg : AllKeep Tryz.prog GT Trg := ((keepT0.add keepsSize).add keepsTop).add keepsFil
set_option maxHeartbeats 2000000 in
theorem keepsRgt : Keeps1 Tryz.prog GT 32 cRgt := by
  refine keepsW (T := Trg) (A := ann32) hMix keepTrg hGT (calls_of (by kernel_rfl)) (callsW_of (by kernel_rfl)) fun args ⟨d, m, n⟩ w0 hrd hpre hg => ?_
  obtain ⟨_, rfl, g, h, v, bl, c, sl, sr, l, r, e, ok, at0⟩ := hrd
  simp only [List.cons.injEq, and_true] at e
  subst e
  obtain ⟨m0, m1, n0, n1, mn, _⟩ := hpre
  dsimp only at m0 m1 n0 n1 mn
  refine ⟨[.x (.v 0), .l [.v 1, .v 2]], [], [], 4, env0 [.agg (csL d g h v bl c sl sr l r).toArray, J m, J n] w0, fun b => b, 0, rfl, rfl, fun X hX => mem_none hX rfl, fun X hP hS hw hX hR => ?_⟩
  subst hw; try dsimp only at hR
  rw [vc32 X]
  refine a_agg (csL_len _ _ _ _ _ _ _ _ _ _) at0.one ?_
  intro b0 hb0 b1 hb1 b2 hb2
  obtain ⟨N, eN⟩ : ∃ N, N = m * n := ⟨_, rfl⟩
  have size : ∀ {K : Value → Prop}, K (J N) → AskF X 23 [.agg #[J m, J n]] K := fun hK => call_PE hS (T := Trg) (f := 23) rfl ((m : Int), (n : Int)) trivial (by dsimp only; rw [sizeI_nat (by omega), ← eN]; exact hK)
  refine a_sel1 (v := bl) (by kernel_rfl) ?_
  refine call_W hX hS (T := Trg) (f := 22) rfl (d.Bs, n, ()) (fun w hw => ⟨⟨_, _, rfl, (at0.stp0 hw.stp).bl, _, _, rfl, rfl, rfl⟩, by show n ≤ 64; omega⟩) fun xB u1 W h1 kW s1 su1 o1 => ?_
  dsimp only at o1
  have lsB : LsS W xB (mapN (filV d.Bs) n) := ⟨by rw [mapN_len]; exact own_slAt o1, ls_filV at0.bl.2 (by omega)⟩
  have zW := su1.size
  have lo : ∀ q ∈ [b0, b1, b2], q < W.heap.size := fun q hq => by
    have := h1.low (b := q) (by simpa [kb32_0] using hq)
    have := s1.size
    omega
  refine ⟨fun a w => ∃ (j : Nat) (o : Value), a = [o, J j] ∧ j ≤ n ∧ Kn X w ∧ MRows W w 116 5 encO [b2, b1, b0] 1 (fun _ => o) (fun _ => mapN (rgtO d m) j), fun a _ => match a with | [_, i] => n - intNat i | _ => 0, fun w hw => ⟨0, _, rfl, Nat.zero_le _, hw.kn, MRows.nil W hw.stp encO _ 1 _ 5⟩, ?_⟩
  rintro o _ w ⟨j, _, he, hj, hk, hm⟩
  simp only [List.cons.injEq, and_true] at he
  obtain ⟨rfl, rfl⟩ := he
  have s0 := hk.stp0 hX
  have zw := hm.low.size
  rw [ask_lssN]
  refine a_ifD (fun hlt => ?_) fun hge => ?_
  · rw [hP, ask_j2uI (Nat.lt_trans (show j < 64 by omega) (by decide)), ask_umul, ← hP]
    refine a_sel1 (v := v) (by kernel_rfl) ?_
    refine a_len hP tyU64L at0.v.1 ?_
    rw [ask_lssN]
    refine a_ifD (fun hV => ?_) fun hV => ?_
    · refine a_sel1 (v := v) (by kernel_rfl) ?_
      refine ld_U64 hP hk (at0.v.1.stp0 s0) rfl hV (fun _ _ => List.not_mem_nil) ?_
      have ev : d.V.getD j 0 % 2 ^ m = (rgtO d m j).1 := by show _ = rgtV d m j; rw [rgtV, if_pos hV]
      refine call_PE hS (T := Trg) (f := 86) rfl (m, (n : Int)) ⟨m0, by show m ≤ 64; omega⟩ ?_
      dsimp only
      rw [if_neg (show ¬ 64 ≤ m by omega), ask_ext0, ask_ext1]
      refine a_if (fun _ => ?_) fun h => by cases h
      rw [ask_remU (Nat.pow_pos (by decide)), ev]
      refine ld_SN hP hk (lsB.stp0 hm.low).1 (by rw [mapN_len]) (by rw [mapN_len]; exact hlt) (fun _ _ => List.not_mem_nil) ?_
      rw [mapN_get _ 0 hlt, ask_uplain, ask_aggS, ask_selS0, ask_selS1, ask_selS2, ask_selS3]
      refine a_pushR [rgtO d m j] 1 rfl hX hP tyOP rfl rfl (by decide) encO_len hm (i := 0) (by decide) rfl zW (fun b hb => .inr (by simpa [kb32_0, or_comm, or_left_comm, or_assoc] using hb)) (fun b hb => by simpa [kb32_0, or_comm, or_left_comm, or_assoc] using hb) (fun b hb => by cases hb) (by decide) (by decide) (by kernel_rfl) (by simp [one_encO]) (by rw [mapN_len]; unfold maxLen; omega) (by rw [mapN_len]; omega) fun v' w5 k5 s5 hm5 => ?_
      rw [ask_succ (by omega)]
      intro w6 hw6
      refine ⟨⟨j + 1, v', rfl, hlt, hw6.kn, (hm5.stp hw6.stp).congrV (fun i hi => ?_) (fun i hi => ?_)⟩, by simp [intNat]; omega⟩
      · obtain rfl : i = 0 := by omega
        rfl
      · obtain rfl : i = 0 := by omega
        exact (mapN_succ _ _).symm
    · have ev : j * 11400714819323198485 % B64 % 2 ^ m = (rgtO d m j).1 := by show _ = rgtV d m j; rw [rgtV, if_neg hV]
      refine call_PE hS (T := Trg) (f := 86) rfl (m, (n : Int)) ⟨m0, by show m ≤ 64; omega⟩ ?_
      dsimp only
      rw [if_neg (show ¬ 64 ≤ m by omega), ask_ext0, ask_ext1]
      refine a_if (fun _ => ?_) fun h => by cases h
      rw [ask_remU (Nat.pow_pos (by decide)), ev]
      refine ld_SN hP hk (lsB.stp0 hm.low).1 (by rw [mapN_len]) (by rw [mapN_len]; exact hlt) (fun _ _ => List.not_mem_nil) ?_
      rw [mapN_get _ 0 hlt, ask_uplain, ask_aggS, ask_selS0, ask_selS1, ask_selS2, ask_selS3]
      refine a_pushR [rgtO d m j] 1 rfl hX hP tyOP rfl rfl (by decide) encO_len hm (i := 0) (by decide) rfl zW (fun b hb => .inr (by simpa [kb32_0, or_comm, or_left_comm, or_assoc] using hb)) (fun b hb => by simpa [kb32_0, or_comm, or_left_comm, or_assoc] using hb) (fun b hb => by cases hb) (by decide) (by decide) (by kernel_rfl) (by simp [one_encO]) (by rw [mapN_len]; unfold maxLen; omega) (by rw [mapN_len]; omega) fun v' w5 k5 s5 hm5 => ?_
      rw [ask_succ (by omega)]
      intro w6 hw6
      refine ⟨⟨j + 1, v', rfl, hlt, hw6.kn, (hm5.stp hw6.stp).congrV (fun i hi => ?_) (fun i hi => ?_)⟩, by simp [intNat]; omega⟩
      · obtain rfl : i = 0 := by omega
        rfl
      · obtain rfl : i = 0 := by omega
        exact (mapN_succ _ _).symm
  obtain rfl : j = n := by omega
  have rV : w.ownsRow W.heap.size 116 5 o (mapN (rgtO d m) j).length ((mapN (rgtO d m) j).flatMap encO) := hm.row 0 (by decide)
  rw [mapN_len] at rV
  have l2 := lo b2 (by simp)
  have fin : ∀ {x3 x4 : Value} {w4 : World} {b3 B3 B4 : Nat}, Stp [] w w4 → w4.ownsRow B3 29 4 x3 N ((mapN (filV d.SL) N).flatMap encS) → w4.ownsRow B4 29 4 x4 N ((mapN (filV d.SR) N).flatMap encS) → W.heap.size ≤ B3 → W.heap.size ≤ B4 → (∀ q, x3.ownBlock = some q → q ≠ b3) → (∀ q, x4.ownBlock = some q → q ≠ b3) → w.heap.size ≤ b3 → Ret X w4 [b2, b3] [] (.tuple #[o, .agg (tpN (rgtT d N) x3 x4).toArray]) := fun hs h3 h4 e3 e4 n3 n4 hb => by
    have off : ∀ {v : Value} {xs : List Value} {w : World} {n e s base b3 : Nat}, w.ownsRow base e s v n xs → W.heap.size ≤ base → (∀ q, v.ownBlock = some q → q ≠ b3) → ∀ q, v.ownBlock = some q → q ∉ [b2, b3] := fun ho hb hn q hq hm => by
      have := ho.lt q hq
      have := hn q hq
      simp only [List.mem_cons, List.not_mem_nil, or_false] at hm
      omega
    refine hR _ _ _ _ fun wf hwf => ⟨o, _, _, by rw [← eN], own_mono (own_stp (own_stp0 rV hs) hwf.stp (off rV (Nat.le_refl _) fun q hq => ?_)) zW, ?_, ?_⟩
    · have := (rV.lt q hq).2
      omega
    · show wf.ownsRow _ _ _ _ (m * j) ((mapN _ (m * j)).flatMap _)
      rw [← eN]
      exact own_mono (own_stp h3 hwf.stp (off h3 e3 n3)) (by omega)
    · show wf.ownsRow _ _ _ _ (m * j) ((mapN _ (m * j)).flatMap _)
      rw [← eN]
      exact own_mono (own_stp h4 hwf.stp (off h4 e4 n4)) (by omega)
  refine ⟨⟨?_, ?_⟩, ?_⟩
  · skip
    refine a_selL (ds := encS d.al) (by kernel_rfl) (by rw [csL_len]; omega) ?_
    refine a_selL (ds := encS d.rho) (by kernel_rfl) (by rw [csL_len]; omega) ?_
    refine a_selL (ds := encS d.t1) (by kernel_rfl) (by rw [csL_len]; omega) ?_
    refine a_selL (ds := encS d.t2) (by kernel_rfl) (by rw [csL_len]; omega) ?_
    refine a_sel1 (v := sl) (by kernel_rfl) (size ?_)
    refine call_W hX hS (T := Trg) (f := 22) rfl (d.SL, N, ()) (fun w2 hw => ⟨⟨_, _, rfl, (at0.stp0 (s0.trans0 hw.stp)).sl, _, _, rfl, rfl, rfl⟩, by show N ≤ 64; omega⟩) fun x3 u3 w3 h3 k3 s3 su3 o3 => ?_
    dsimp only at o3
    have zz3 := h3.size
    have zs3 := s3.size
    refine a_sel1 (v := sr) (by kernel_rfl) (size ?_)
    refine call_W hX hS (T := Trg) (f := 22) rfl (d.SR, N, ()) (fun w2 hw => ⟨⟨_, _, rfl, (at0.stp0 (s0.trans0 (su3.trans0 hw.stp))).sr, _, _, rfl, rfl, rfl⟩, by show N ≤ 64; omega⟩) fun x4 u4 w4 h4 k4 s4 su4 o4 => ?_
    dsimp only at o4
    have zz4 := h4.size
    have zs4 := s4.size
    iterate 4
      refine a_agg (cs := encS _) rfl (one_encS _) ?_
      iterate 4 refine a_sel1 rfl ?_
    have c3 := own_one o3
    have c4 := own_one o4
    refine a_plain c3 (a_plain c4 ?_)
    intro b3 hb3
    iterate 16 refine a_plain rfl ?_
    refine a_plain c3 (a_plain c4 ?_)
    iterate 16 refine a_plain rfl ?_
    refine a_plain c3 (a_plain c4 ?_)
    exact fin (su3.trans0 su4) (own_stp0 o3 su4) o4 (by omega) (by omega) (fun q hq => by have := (o3.lt q hq).2; omega) (fun q hq => by have := (o4.lt q hq).2; omega) (by omega)
  · skip
    refine a_sel1 (v := sl) (by kernel_rfl) (size ?_)
    refine call_W hX hS (T := Trg) (f := 22) rfl (d.SL, N, ()) (fun w2 hw => ⟨⟨_, _, rfl, (at0.stp0 (s0.trans0 hw.stp)).sl, _, _, rfl, rfl, rfl⟩, by show N ≤ 64; omega⟩) fun x3 u3 w3 h3 k3 s3 su3 o3 => ?_
    dsimp only at o3
    have zz3 := h3.size
    have zs3 := s3.size
    intro b3 hb3
    refine a_selL (ds := encS d.al) (by kernel_rfl) (by rw [csL_len]; omega) ?_
    refine a_selL (ds := encS d.rho) (by kernel_rfl) (by rw [csL_len]; omega) ?_
    refine a_selL (ds := encS d.t1) (by kernel_rfl) (by rw [csL_len]; omega) ?_
    refine a_selL (ds := encS d.t2) (by kernel_rfl) (by rw [csL_len]; omega) ?_
    refine a_sel1 (v := sr) (by kernel_rfl) (size ?_)
    refine call_W hX hS (T := Trg) (f := 22) rfl (d.SR, N, ()) (fun w2 hw => ⟨⟨_, _, rfl, (at0.stp0 (s0.trans0 (su3.trans0 hw.stp))).sr, _, _, rfl, rfl, rfl⟩, by show N ≤ 64; omega⟩) fun x4 u4 w4 h4 k4 s4 su4 o4 => ?_
    dsimp only at o4
    have zz4 := h4.size
    have zs4 := s4.size
    have lb3 : b3 < u4.heap.size := h4.low (by simp [kb32_1])
    iterate 4
      refine a_agg (cs := encS _) rfl (one_encS _) ?_
      iterate 4 refine a_sel1 rfl ?_
    have c3 := own_one o3
    have c4 := own_one o4
    refine a_plain c3 (a_plain c4 ?_)
    iterate 16 refine a_plain rfl ?_
    refine a_plain c3 (a_plain c4 ?_)
    iterate 16 refine a_plain rfl ?_
    refine a_plain c3 (a_plain c4 ?_)
    exact fin (su3.trans0 su4) (own_stp0 o3 su4) o4 (by omega) (by omega) (fun q hq => by have := (o3.lt q hq).2; omega) (fun q hq => by have := (o4.lt q hq).1; omega) (by omega)
  · intro b3 hb3
    refine a_selL (ds := encS d.al) (by kernel_rfl) (by rw [csL_len]; omega) ?_
    refine a_selL (ds := encS d.rho) (by kernel_rfl) (by rw [csL_len]; omega) ?_
    refine a_selL (ds := encS d.t1) (by kernel_rfl) (by rw [csL_len]; omega) ?_
    refine a_selL (ds := encS d.t2) (by kernel_rfl) (by rw [csL_len]; omega) ?_
    refine a_sel1 (v := sl) (by kernel_rfl) (size ?_)
    refine call_W hX hS (T := Trg) (f := 22) rfl (d.SL, N, ()) (fun w2 hw => ⟨⟨_, _, rfl, (at0.stp0 (s0.trans0 hw.stp)).sl, _, _, rfl, rfl, rfl⟩, by show N ≤ 64; omega⟩) fun x3 u3 w3 h3 k3 s3 su3 o3 => ?_
    dsimp only at o3
    have zz3 := h3.size
    have zs3 := s3.size
    have lb3 : b3 < u3.heap.size := h3.low (by simp [kb32_1])
    refine a_sel1 (v := sr) (by kernel_rfl) (size ?_)
    refine call_W hX hS (T := Trg) (f := 22) rfl (d.SR, N, ()) (fun w2 hw => ⟨⟨_, _, rfl, (at0.stp0 (s0.trans0 (su3.trans0 hw.stp))).sr, _, _, rfl, rfl, rfl⟩, by show N ≤ 64; omega⟩) fun x4 u4 w4 h4 k4 s4 su4 o4 => ?_
    dsimp only at o4
    have zz4 := h4.size
    have zs4 := s4.size
    iterate 4
      refine a_agg (cs := encS _) rfl (one_encS _) ?_
      iterate 4 refine a_sel1 rfl ?_
    have c3 := own_one o3
    have c4 := own_one o4
    refine a_plain c3 (a_plain c4 ?_)
    iterate 16 refine a_plain rfl ?_
    refine a_plain c3 (a_plain c4 ?_)
    iterate 16 refine a_plain rfl ?_
    refine a_plain c3 (a_plain c4 ?_)
    exact fin (su3.trans0 su4) (own_stp0 o3 su4) o4 (by omega) (by omega) (fun q hq => by have := (o3.lt q hq).1; omega) (fun q hq => by have := (o4.lt q hq).1; omega) (by omega)
#print axioms keepsRgt
end Go.Vc
