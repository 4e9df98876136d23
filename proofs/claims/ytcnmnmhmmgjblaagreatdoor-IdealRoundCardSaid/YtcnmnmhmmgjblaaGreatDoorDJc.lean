/-
  Sums by the way that suits the number of terms, over the lines.
-/
import Derived.Test.YtcnmnmhmmgjblaaGreatDoorDJb
import Derived.Test.YtcnmnmhmmgjblaaGreatDoorDZip
namespace Go.Vc
open Go Go.Proofs Go.RowKit
/-! ### the least of the bounds -/
def ann135 : Ann := ⟨[(3, ([4, 5, 6], []))], [146], 70, [], [], none, [], []⟩
theorem vc135 (X : Ctx) (β : Nat → Nat) (x0 : Value) : (run Tryz.prog ann135 135 [.x (.v 0)] [] [] 2).den X (env0 [x0] X.w0) 2 β 0 (fun _ _ _ => False) = (
 ∃ (I0 : List Value → World → Prop) (μ0 : List Value → World → Nat), (∀ w, KnownV X X.w0 [] [] w → I0 [(J 0), (J 0), (J 1)] w) ∧ ∀ x2 x3 x4 w5, I0 [x2, x3, x4] w5 →
 Ask (rBin X.P .leq 3 false true x4 (J 8)) fun x6 =>
 (∃ t, x6 = .bool t) ∧ (x6 = .bool true →
 Ask (rBin X.P .shl 3 true false (J 1) x4) fun x7 =>
 AskF X 146 [x4] fun x8 =>
 Ask (rBin X.P .add 3 false false x7 x8) fun x9 =>
 Ask (rBin X.P .mul 3 false false x0 x9) fun x10 =>
 AskF X 146 [x4] fun x11 =>
 Ask (rBin X.P .mul 3 false false x4 x11) fun x12 =>
 Ask (rBin X.P .add 3 false false x10 x12) fun x13 =>
 Ask (rBin X.P .eql 3 false true x2 (J 0)) fun x14 =>
 AskG [(x14, false)] (rBin X.P .lss 3 false false x13 x3) fun x15 =>
 Ask (rPick x14 (.bool true) x15) fun x16 =>
 (∃ t, x16 = .bool t) ∧ (x16 = .bool true →
 Ask (rBin X.P .add 3 false true x4 (J 1)) fun x17 =>
 Again X w5 [] [] fun w => I0 [x4, x13, x17] w ∧ μ0 [x4, x13, x17] w < μ0 [x2, x3, x4] w5) ∧ (x16 = .bool false →
 Ask (rBin X.P .add 3 false true x4 (J 1)) fun x17 =>
 Again X w5 [] [] fun w => I0 [x2, x3, x17] w ∧ μ0 [x2, x3, x17] w < μ0 [x2, x3, x4] w5)) ∧ (x6 = .bool false →
 Ret X w5 [] [] (.tuple #[x2, x3]))) := by kernel_rfl
def Tjw : Table := T0.add 146 cWins
theorem keepTjw : AllKeep Tryz.prog GT Tjw := keepT0.add keepsWins
theorem keepsMostJ : Keeps1 Tryz.prog GT 136 cMost := by
  refine keepsP (T := Tjw) (A := ann136) injJ2 hMix keepTjw hGT (calls_of (by kernel_rfl)) (callsW_of (by kernel_rfl)) fun ⟨n, w⟩ w0 ⟨hn, h1, h2⟩ _ => ⟨[.x (.v 0), .x (.v 1)], [], [], 3, env0 [J n, J w] w0, fun b => b, 0, rfl, rfl, fun X hX => mem_none hX rfl, fun X hP hS hw hX hR => ?_⟩
  subst hw
  rw [vc136 X]
  dsimp only at hn h1 h2
  have hp := pow_le13 h2
  have hm := most_le hn h2
  refine call_PE hS (T := Tjw) (f := 146) rfl w ⟨h1, h2⟩ ?_
  rw [ask_shlN (by omega) (by omega), ask_addN (by omega), ask_addN (by omega), ask_addN (by omega), ask_mulN (Nat.lt_of_le_of_lt hm (by decide))]
  exact hR _ _ _ _ rfl
def Tjmo : Table := T0.add 136 cMost
theorem keepTjmo : AllKeep Tryz.prog GT Tjmo := keepT0.add keepsMostJ
theorem keepsSuitsJ : Keeps1 Tryz.prog GT 134 cSuits := by
  refine keepsP (T := Tjmo) (A := ann134) injN hMix keepTjmo hGT (calls_of (by kernel_rfl)) (callsW_of (by kernel_rfl)) fun n w0 hn _ => ⟨[.x (.v 0)], [], [], 2, env0 [J n] w0, fun b => b, 0, rfl, rfl, fun X hX => mem_none hX rfl, fun X hP hS hw hX hR => ?_⟩
  subst hw
  rw [vc134 X]
  refine ⟨fun a w => ∃ b k, a = [J b, J k] ∧ 1 ≤ b ∧ b < k ∧ k ≤ 13 ∧ (∀ w, 1 ≤ w → w < k → mostN n b ≤ mostN n w) ∧ Kn X w, fun a _ => match a with | [_, i] => 13 - intNat i | _ => 0,
    fun w hw => ⟨1, 2, rfl, by decide, by decide, by decide, min_one, hw.kn⟩, ?_⟩
  rintro _ _ w ⟨b, k, he, hb, hbk, hk, hmin, hkn⟩
  simp only [List.cons.injEq, and_true] at he
  obtain ⟨rfl, rfl⟩ := he
  rw [ask_leqN]
  refine a_ifD (fun hle => ?_) fun hgt => ?_
  · refine call_PE hS (T := Tjmo) (f := 136) rfl (n, k) ⟨hn, by omega, by omega⟩ ?_
    refine call_PE hS (T := Tjmo) (f := 136) rfl (n, b) ⟨hn, by omega, by omega⟩ ?_
    dsimp only
    rw [ask_lssN]
    refine a_ifD (fun hlt => ?_) fun hge => ?_
    · rw [ask_succ (by omega)]
      intro w2 hw2
      refine ⟨⟨k, k + 1, rfl, by omega, by omega, by omega, fun w h1 h2 => ?_, hw2.kn⟩, by simp [intNat]; omega⟩
      rcases Nat.lt_or_ge w k with h | h
      · exact Nat.le_trans (Nat.le_of_lt hlt) (hmin w h1 h)
      · obtain rfl : w = k := by omega
        exact Nat.le_refl _
    · rw [ask_succ (by omega)]
      intro w2 hw2
      refine ⟨⟨b, k + 1, rfl, by omega, by omega, by omega, fun w h1 h2 => ?_, hw2.kn⟩, by simp [intNat]; omega⟩
      rcases Nat.lt_or_ge w k with h | h
      · exact hmin w h1 h
      · obtain rfl : w = k := by omega
        omega
  · obtain rfl : k = 13 := by omega
    exact hR _ _ _ _ ⟨b, rfl, hb, by omega, fun w h1 h2 => hmin w h1 (by omega)⟩
/-- What Straus does at most. -/
def tabN (n w : Nat) : Nat := n * (2 ^ w + wN w) + w * wN w
theorem tab_le {n w : Nat} (hn : n ≤ 8192) (hw : w ≤ 8) : wN w ≤ 264 ∧ 2 ^ w ≤ 256 ∧ n * (2 ^ w + wN w) ≤ 8192 * 520 ∧ w * wN w ≤ 8 * 264 := by
  have h1 := wN_le w
  have h2 : 2 ^ w ≤ 256 := Nat.pow_le_pow_right (n := 2) (by decide) hw
  exact ⟨by omega, h2, Nat.mul_le_mul hn (by omega), Nat.mul_le_mul hw (by omega)⟩
def cTabs : Contract := fnP (fun n : Nat => [J n]) domN (fun n v => ∃ b m, v = .tuple #[J b, J m] ∧ 1 ≤ b ∧ b ≤ 8 ∧ ∀ w, 1 ≤ w → w ≤ 8 → m ≤ tabN n w)
theorem keepsTabs : Keeps1 Tryz.prog GT 135 cTabs := by
  refine keepsP (T := Tjw) (A := ann135) injN hMix keepTjw hGT (calls_of (by kernel_rfl)) (callsW_of (by kernel_rfl)) fun n w0 hn _ => ⟨[.x (.v 0)], [], [], 2, env0 [J n] w0, fun b => b, 0, rfl, rfl, fun X hX => mem_none hX rfl, fun X hP hS hw hX hR => ?_⟩
  subst hw
  rw [vc135 X]
  unfold domN at hn
  refine ⟨fun a w => ∃ b m k, a = [J b, J m, J k] ∧ b < k ∧ 1 ≤ k ∧ k ≤ 9 ∧ (b = 0 → k = 1) ∧ (∀ w, 1 ≤ w → w < k → m ≤ tabN n w) ∧ Kn X w, fun a _ => match a with | [_, _, i] => 9 - intNat i | _ => 0,
    fun w hw => ⟨0, 0, 1, rfl, by decide, by decide, by decide, fun _ => rfl, fun w h1 h2 => absurd h2 (by omega), hw.kn⟩, ?_⟩
  rintro _ _ _ w ⟨b, m, k, he, hbk, hk1, hk, hb, hmin, hkn⟩
  simp only [List.cons.injEq, and_true] at he
  obtain ⟨rfl, rfl, rfl⟩ := he
  rw [ask_leqN]
  refine a_ifD (fun hle => ?_) fun hgt => ?_
  · obtain ⟨t1, t2, t3, t4⟩ := tab_le hn hle
    rw [ask_shlN (by omega) (by omega), Nat.one_mul]
    refine call_PE hS (T := Tjw) (f := 146) rfl k ⟨hk1, by omega⟩ ?_
    rw [ask_addN (by omega), ask_mulN (by omega)]
    refine call_PE hS (T := Tjw) (f := 146) rfl k ⟨hk1, by omega⟩ ?_
    rw [ask_mulN (by omega), ask_addN (by omega), ask_eqlN]
    have ht : n * (2 ^ k + wN k) + k * wN k = tabN n k := rfl
    rw [ht]
    have next : ∀ {c q : Nat}, 1 ≤ c → c ≤ k → (∀ w, 1 ≤ w → w ≤ k → q ≤ tabN n w) → ∀ w2, Kn X w2 → ∃ b m k2, [J c, J q, J (k + 1)] = [J b, J m, J k2] ∧ b < k2 ∧ 1 ≤ k2 ∧ k2 ≤ 9 ∧ (b = 0 → k2 = 1) ∧ (∀ w, 1 ≤ w → w < k2 → m ≤ tabN n w) ∧ Kn X w2 := fun h1 h2 h3 w2 hw2 => ⟨_, _, _, rfl, by omega, by omega, by omega, by omega, fun w a b => h3 w a (by omega), hw2⟩
    by_cases h0 : b = 0
    · rw [decide_eq_true h0]
      refine a_G_off (condsV1_not (by decide)) fun _ => ?_
      rw [ask_pickT]
      refine a_if (fun _ => ?_) fun h => by cases h
      rw [ask_succ (by omega)]
      intro w2 hw2
      have hk1 := hb h0
      subst hk1
      exact ⟨next (by omega) (by omega) (fun w h1 h2 => by obtain rfl : w = 1 := by omega
                                                           exact Nat.le_refl _) _ hw2.kn, by simp [intNat]⟩
    · rw [decide_eq_false h0]
      refine a_G_on condsV1 ?_
      rw [ask_lssN, ask_pickF]
      refine a_ifD (fun hlt => ?_) fun hge => ?_
      · rw [ask_succ (by omega)]
        intro w2 hw2
        refine ⟨next hk1 (Nat.le_refl _) (fun w h1 h2 => ?_) _ hw2.kn, by simp [intNat]; omega⟩
        rcases Nat.lt_or_ge w k with h | h
        · exact Nat.le_trans (Nat.le_of_lt hlt) (hmin w h1 h)
        · obtain rfl : w = k := by omega
          exact Nat.le_refl _
      · rw [ask_succ (by omega)]
        intro w2 hw2
        refine ⟨next (by omega) (by omega) (fun w h1 h2 => ?_) _ hw2.kn, by simp [intNat]; omega⟩
        rcases Nat.lt_or_ge w k with h | h
        · exact hmin w h1 h
        · obtain rfl : w = k := by omega
          omega
  · obtain rfl : k = 9 := by omega
    exact hR _ _ _ _ ⟨b, m, rfl, by omega, by omega, fun w h1 h2 => hmin w h1 (by omega)⟩
/-- Few terms: tables do less than buckets, whatever the buckets' digits are. -/
def fewB : Bool := (List.range 124).all fun n => (List.range 13).all fun w => w == 0 || (List.range 9).any fun v => 1 ≤ v && tabN n v < mostN n w
theorem fewB_true : fewB = true := by decide +kernel
theorem few_lt {n s : Nat} (hn : n ≤ 123) (h1 : 1 ≤ s) (h2 : s ≤ 12) : ∃ v, 1 ≤ v ∧ v ≤ 8 ∧ tabN n v < mostN n s := by
  have h := List.all_eq_true.1 fewB_true n (List.mem_range.2 (by omega))
  have h := List.all_eq_true.1 h s (List.mem_range.2 (by omega))
  simp only [Bool.or_eq_true, beq_iff_eq, List.any_eq_true, Bool.and_eq_true, decide_eq_true_eq, List.mem_range] at h
  obtain h | ⟨v, h3, h4, h5⟩ := h
  · omega
  · exact ⟨v, h4, by omega, h5⟩
/-! ### one by one -/
theorem sumT_nil : sumT [] = 0 := rfl
theorem sumT_snoc (ts : List (Nat × Nat)) (t : Nat × Nat) : sumT (ts ++ [t]) = sumT ts + rF t.1 * rF t.2 := by
  unfold sumT
  rw [List.length_append, List.length_singleton, sumF']
  congr 1
  · exact sumF'_congr _ fun j hj => by
      have e : (ts ++ [t]).getD j (0, 0) = ts.getD j (0, 0) := by rw [List.getD_eq_getElem?_getD, List.getD_eq_getElem?_getD, List.getElem?_append_left hj]
      rw [kT, kT, pT, pT, e]
  · have e : (ts ++ [t]).getD ts.length (0, 0) = t := by simp [List.getD_eq_getElem?_getD]
    rw [kT, pT, e, rF_mod]
theorem sumT_app (ts : List (Nat × Nat)) (f : Nat → Nat × Nat) : ∀ n : Nat, sumT (ts ++ mapN f n) = sumT ts + sumF' (fun i => rF (f i).1 * rF (f i).2) n
  | 0 => by
    rw [show mapN f 0 = [] from rfl, List.append_nil, sumF']
    exact (Lean.Grind.Semiring.add_zero _).symm
  | n + 1 => by
    rw [mapN_succ, ← List.append_assoc, sumT_snoc, sumT_app ts f n, sumF']; grind
def cPlj : Contract := fnW (Cods.cons cTj Cods.nil) (fun p _ => p.1.length ≤ 1000) (fun p _ v _ => v = S (sumT p.1).val)
def Tjp : Table := (T0.add 218 cqMul).add 31 cqAdd
theorem keepTjp : AllKeep Tryz.prog GT Tjp := (keepT0.add keepsLTimesF).add keepsLAddF
def ann121 : Ann := ⟨[(3, ([8], [1]))], [], 70, [], [2, 3], none, [], []⟩
def kb121_0 (b0 b1 : Nat) (x2 x3 : Value) : List KB := [⟨b0, true, 31, (aggArr x2)⟩, ⟨b1, true, 31, (aggArr x3)⟩]
theorem vc121 (X : Ctx) (β : Nat → Nat) (x0 : Value) : (run Tryz.prog ann121 121 [.x (.v 0)] [] [] 2).den X (env0 [x0] X.w0) 2 β 0 (fun _ _ _ => False) = (
 Ask (rAgg 4 (.agg #[(U 0), (U 0), (U 0), (U 0)])) fun x2 =>
 AskNew X.w0 fun b0 =>
 Ask (rAgg 4 (.agg #[(U 0), (U 0), (U 0), (U 0)])) fun x3 =>
 AskNew X.w0 fun b1 =>
 Ask (rLen X.P 143 x0) fun x4 =>
 ∃ (I0 : List Value → World → Prop) (μ0 : List Value → World → Nat), (∀ w, KnownV X X.w0 [] (kb121_0 b0 b1 x2 x3) w → I0 [(J 0), x3] w) ∧ ∀ x5 x6 w7, I0 [x5, x6] w7 →
 Ask (rBin X.P .lss 3 false false x5 x4) fun x8 =>
 (∃ t, x8 = .bool t) ∧ (x8 = .bool true →
 Ask (rIad X.P 143 x0 x5) fun x9 =>
 Ask (rLoad X w7 [] 142 x9) fun x10 =>
 AskNew w7 fun b2 =>
 Ask (rAgg 8 x10) fun x11 =>
 Ask (rSel (aggArr x11) 0 1 false) fun x12 =>
 Ask (rSel (aggArr x11) 1 1 false) fun x13 =>
 Ask (rSel (aggArr x11) 2 1 false) fun x14 =>
 Ask (rSel (aggArr x11) 3 1 false) fun x15 =>
 Ask (rSel (aggArr x11) 4 1 false) fun x16 =>
 Ask (rSel (aggArr x11) 5 1 false) fun x17 =>
 Ask (rSel (aggArr x11) 6 1 false) fun x18 =>
 Ask (rSel (aggArr x11) 7 1 false) fun x19 =>
 Ask (rGen X.P (Op.makeInterface 31 (Operand.tmp 12)) 20 [(12, x6)]) fun x20 =>
 Ask (rGen X.P (Op.makeInterface 31 (Operand.tmp 15)) 20 [(15, (.agg #[x16, x17, x18, x19]))]) fun x21 =>
 AskI X x21 "Times" [(.agg #[x12, x13, x14, x15])] fun x22 =>
 AskI X x20 "Add" [x22] fun x23 =>
 Ask (rAgg 4 x23) fun x24 =>
 Ask (rBin X.P .add 3 false true x5 (J 1)) fun x25 =>
 Again X w7 [b1, b2] [] fun w => I0 [x25, x24] w ∧ μ0 [x25, x24] w < μ0 [x5, x6] w7) ∧ (x8 = .bool false →
 Ask (rAgg 4 x6) fun x9 =>
 Ret X w7 [b0] [] x9)) := by kernel_rfl
theorem keepsPlj : Keeps1 Tryz.prog GT 121 cPlj := by
  refine keepsW (T := Tjp) (A := ann121) hMix keepTjp hGT (calls_of (by kernel_rfl)) (callsW_of (by kernel_rfl)) fun args ⟨ts, _⟩ w0 hrd hpre hg => ?_
  obtain ⟨x, _, rfl, hl, rfl⟩ := hrd
  dsimp only at hl hpre
  replace hl : LsT w0 x ts := hl
  refine ⟨[.x (.v 0)], [], [], 2, env0 [x] w0, fun b => b, 0, rfl, rfl, fun X hX => mem_none hX rfl, fun X hP hS hw hX hR => ?_⟩
  subst hw; try dsimp only at hR
  rw [vc121 X]
  rw [ask_zero4]; intro b0 hb0
  rw [ask_zero4]; intro b1 hb1
  refine a_len hP tyT hl.1 ?_
  refine ⟨fun a w => ∃ i, a = [J i, S (sumT (ts.take i)).val] ∧ i ≤ ts.length ∧ Kn X w, fun a _ => match a with | i :: _ => ts.length - intNat i | _ => 0, fun w hw => ⟨0, rfl, Nat.zero_le _, hw.kn⟩, ?_⟩
  rintro _ _ w ⟨i, he, hi, hk⟩
  simp only [List.cons.injEq, and_true] at he
  obtain ⟨rfl, rfl⟩ := he
  rw [ask_lssN]
  refine a_ifD (fun hlt => ?_) fun hge => ?_
  · have hl' := hl.1.stp0 (hk.stp0 hX)
    have okt := hl.2 _ (List.getElem_mem hlt)
    refine a_iadN hP tyT hl' hlt ?_
    refine a_load_agg (cs := encT ts[i]) hk hl' (by rw [hP]; exact aggT) (by rw [hP]; exact szT) (fun _ _ => List.not_mem_nil) (by simp [encT, encS]) (flat_at encT_len ts i _ (List.getElem?_eq_getElem hlt)) ?_
    intro b2 hb2
    refine a_agg rfl (one_encTj _) ?_
    iterate 8 refine a_sel1 rfl ?_
    rw [foldSj, foldSj]
    refine a_mkL hP (a_mkL hP ?_)
    refine call_I hP hS (T := Tjp) (f := 218) rfl (ts[i].2, ts[i].1) (methJTimes _ _) ⟨okt.2, okt.1⟩ ?_
    refine call_I hP hS (T := Tjp) (f := 31) rfl ((sumT (ts.take i)).val, (rF ts[i].2 * rF ts[i].1).val) (methJAdd _ _) ⟨val_lt _, val_lt _⟩ ?_
    dsimp only
    rw [rF_val, rF_val, ask_aggS, ask_succ (by omega)]
    intro w2 hw2
    refine ⟨⟨i + 1, ?_, hlt, hw2.kn⟩, by simp [intNat]; omega⟩
    rw [List.take_add_one, List.getElem?_eq_getElem hlt]
    show _ = [J (i + 1), S (sumT (ts.take i ++ [ts[i]])).val]
    rw [sumT_snoc, show rF ts[i].2 * rF ts[i].1 = rF ts[i].1 * rF ts[i].2 by grind]
  · obtain rfl : i = ts.length := by omega
    rw [ask_aggS, List.take_length]
    exact hR _ _ _ _ fun _ _ => rfl
/-! ### Sum -/
def ann122 : Ann := ⟨[], [134, 135, 136], 70, [(137, false), (138, false)], [2, 8], none, [1000037, 1000036], []⟩
def kb122_0 (b0 b1 : Nat) (x2 : Value) : List KB := [⟨b0, true, 31, (aggArr x2)⟩, ⟨b1, true, 196, #[(J 0), (J 0)]⟩]
theorem vc122 (X : Ctx) (β : Nat → Nat) (x0 : Value) : (run Tryz.prog ann122 122 [.x (.v 0)] [] [] 2).den X (env0 [x0] X.w0) 2 β 0 (fun _ _ _ => False) = (
 Ask (rAgg 4 (.agg #[(U 0), (U 0), (U 0), (U 0)])) fun x2 =>
 AskNew X.w0 fun b0 =>
 AskNew X.w0 fun b1 =>
 Ask (rLen X.P 143 x0) fun x3 =>
 AskF X 134 [x3] fun x4 =>
 AskF X 135 [x3] fun x5 =>
 Ask (rExt X.P x5 0) fun x6 =>
 Ask (rExt X.P x5 1) fun x7 =>
 Ask (rBin X.P .leq 3 false true x3 (J 8192)) fun x8 =>
 AskGF X [(x8, true)] 136 [x3, x4] fun x9 =>
 AskG [(x8, true)] (rBin X.P .lss 3 false false x7 x9) fun x10 =>
 Ask (rPick x8 x10 (.bool false)) fun x11 =>
 (∃ t, x11 = .bool t) ∧ (x11 = .bool true →
 AskW X X.w0 [] (kb122_0 b0 b1 x2) false 137 [x6, x0] fun x12 w12 =>
 Ask (rExt X.P x12 0) fun x13 =>
 Ask (rExt X.P x12 1) fun x14 =>
 Ask (rExt X.P x12 2) fun _ =>
 Ask (rAgg 4 (.agg #[(U 0), (U 0), (U 0), (U 0)])) fun _ =>
 AskNew w12 fun b2 =>
 AskNew w12 fun b3 =>
 Ask (rAgg 4 x13) fun x17 =>
 Ask (rAgg 2 x14) fun x18 =>
 Ask (rSel (aggArr x18) 0 1 false) fun x19 =>
 Ask (rSel (aggArr x18) 1 1 false) fun x20 =>
 ((
 Ask (rAgg 4 x17) fun x21 =>
 Ask (rPlain x19) fun x22 =>
 Ask (rPlain x20) fun x23 =>
 Ret X w12 [b1, b0, b3, b2] [] (.tuple #[x21, (.agg #[x22, x23])])) ∧ (
 Ask (rAgg 4 x17) fun x21 =>
 Ask (rPlain x19) fun x22 =>
 Ask (rPlain x20) fun x23 =>
 Ret X w12 [b1, b0, b3, b2] [] (.tuple #[x21, (.agg #[x22, x23])])))) ∧ (x11 = .bool false →
 AskW X X.w0 [] (kb122_0 b0 b1 x2) false 138 [x4, x0] fun x12 w12 =>
 Ask (rExt X.P x12 0) fun x13 =>
 Ask (rExt X.P x12 1) fun x14 =>
 Ask (rAgg 4 x13) fun x15 =>
 Ask (rAgg 2 x14) fun x16 =>
 Ask (rSel (aggArr x16) 0 1 false) fun x17 =>
 Ask (rSel (aggArr x16) 1 1 false) fun x18 =>
 Ret X w12 [b1, b0] [] (.tuple #[x15, (.agg #[x17, x18])]))) := by kernel_rfl
/-- Many terms are not asked for. -/
def cNob : Contract := fnW (Cods.cons cJn' (Cods.cons cTj Cods.nil)) (fun _ _ => False) (fun _ _ _ _ => True)
theorem keepsNob : Keeps1 Tryz.prog GT 138 cNob := ⟨fun _ _ hp => hp.elim, fun _ _ ⟨_, _, h⟩ _ => h.elim⟩
def cSmj : Contract := fnW (Cods.cons cTj Cods.nil) (fun p _ => p.1.length ≤ 123) (fun p _ v _ => ∃ x y : Int, v = .tuple #[S (sumT p.1).val, .agg #[.int .i64 x, .int .i64 y]])
def Tjs : Table := ((((T0.add 134 cSuits).add 135 cTabs).add 136 cMost).add 137 cStr).add 138 cNob
theorem keepTjs : AllKeep Tryz.prog GT Tjs := ((((keepT0.add keepsSuitsJ).add keepsTabs).add keepsMostJ).add keepsStr).add keepsNob
theorem keepsSmj : Keeps1 Tryz.prog GT 122 cSmj := by
  refine keepsW (T := Tjs) (A := ann122) hMix keepTjs hGT (calls_of (by kernel_rfl)) (callsW_of (by kernel_rfl)) fun args ⟨ts, _⟩ w0 hrd hpre hg => ?_
  obtain ⟨x, _, rfl, hl, rfl⟩ := hrd
  dsimp only at hl hpre
  replace hl : LsT w0 x ts := hl
  refine ⟨[.x (.v 0)], [], [], 2, env0 [x] w0, fun b => b, 0, rfl, rfl, fun X hX => mem_none hX rfl, fun X hP hS hw hX hR => ?_⟩
  subst hw; try dsimp only at hR
  rw [vc122 X]
  rw [ask_zero4]; intro b0 hb0 b1 hb1
  refine a_len hP tyT hl.1 ?_
  refine call_P hS (T := Tjs) (f := 134) rfl ts.length (show ts.length ≤ 8192 by omega) fun v hv => ?_
  obtain ⟨s, rfl, s1, s2, _⟩ := hv
  refine call_P hS (T := Tjs) (f := 135) rfl ts.length (show ts.length ≤ 8192 by omega) fun v hv => ?_
  obtain ⟨b, m, rfl, b1', b2', hmin⟩ := hv
  rw [ask_ext0, ask_ext1, ask_leqN, decide_eq_true (by omega)]
  refine a_GF_on condsV1 ?_
  refine call_PE hS (T := Tjs) (f := 136) rfl (ts.length, s) ⟨by show ts.length ≤ 8192; omega, s1, by omega⟩ ?_
  refine a_G_on condsV1 ?_
  obtain ⟨v, v1, v2, v3⟩ := few_lt hpre s1 s2
  have hmv := hmin v v1 v2
  dsimp only
  rw [ask_lssN, decide_eq_true (by omega), ask_pickT]
  refine a_if (fun _ => ?_) fun h => by cases h
  refine call_W hX hS (T := Tjs) (f := 137) rfl (b, ts, ()) (fun w hw => ⟨⟨_, _, rfl, rfl, _, _, rfl, hl.stp0 (hw.kn.stp0 hX), rfl⟩, b1', b2', by show ts.length ≤ 1000; omega⟩) fun v w w' h k s su hv => ?_
  obtain ⟨c1, c2, rfl⟩ := hv
  dsimp only
  rw [ask_ext (v := S (sumT ts).val) rfl, ask_ext (v := .agg #[.int .i64 c1, .int .i64 c2]) rfl, ask_ext (v := J 0) rfl, ask_zero4]
  intro b2 hb2 b3 hb3
  rw [ask_aggS]
  refine a_agg (cs := [.int .i64 c1, .int .i64 c2]) rfl rfl (a_sel1 rfl (a_sel1 rfl ?_))
  have fin : Ask (rAgg 4 (S (sumT ts).val)) fun x21 => Ask (rPlain (.int .i64 c1)) fun x22 => Ask (rPlain (.int .i64 c2)) fun x23 => Ret X w' [b1, b0, b3, b2] [] (.tuple #[x21, (.agg #[x22, x23])]) := by
    rw [ask_aggS]
    exact a_plain rfl (a_plain rfl (hR _ _ _ _ fun _ _ => ⟨c1, c2, rfl⟩))
  exact ⟨fin, fin⟩
/-! ### sum -/
def cGsj : Contract := fnW (Cods.cons cTj Cods.nil) (fun p _ => p.1.length ≤ 123) (fun p _ v _ => v = S (sumT p.1).val)
def Tjg : Table := (T0.add 121 cPlj).add 122 cSmj
theorem keepTjg : AllKeep Tryz.prog GT Tjg := (keepT0.add keepsPlj).add keepsSmj
def ann125 : Ann := ⟨[], [], 70, [(121, false), (122, false)], [2, 3], none, [], []⟩
def kb125_0 (b0 : Nat) (x2 : Value) : List KB := [⟨b0, true, 31, (aggArr x2)⟩]
theorem vc125 (X : Ctx) (β : Nat → Nat) (x0 : Value) : (run Tryz.prog ann125 125 [.x (.v 0)] [] [] 2).den X (env0 [x0] X.w0) 2 β 0 (fun _ _ _ => False) = (
 Ask (rAgg 4 (.agg #[(U 0), (U 0), (U 0), (U 0)])) fun x2 =>
 AskNew X.w0 fun b0 =>
 Ask (rLen X.P 143 x0) fun x3 =>
 Ask (rBin X.P .lss 3 false true x3 (J 24)) fun x4 =>
 (∃ t, x4 = .bool t) ∧ (x4 = .bool true →
 AskW X X.w0 [] (kb125_0 b0 x2) false 121 [x0] fun x5 w5 =>
 Ask (rAgg 4 x5) fun x6 =>
 Ret X w5 [b0] [] x6) ∧ (x4 = .bool false →
 AskW X X.w0 [] (kb125_0 b0 x2) false 122 [x0] fun x5 w5 =>
 Ask (rExt X.P x5 0) fun x6 =>
 Ask (rExt X.P x5 1) fun x7 =>
 Ask (rAgg 4 (.agg #[(U 0), (U 0), (U 0), (U 0)])) fun _ =>
 AskNew w5 fun b1 =>
 AskNew w5 fun b2 =>
 Ask (rAgg 4 x6) fun x9 =>
 Ask (rAgg 2 x7) fun x10 =>
 Ask (rSel (aggArr x10) 0 1 false) fun _ =>
 Ask (rSel (aggArr x10) 1 1 false) fun _ =>
 Ask (rAgg 4 x9) fun x13 =>
 Ret X w5 [b0, b2, b1] [] x13)) := by kernel_rfl
theorem keepsGsj : Keeps1 Tryz.prog GT 125 cGsj := by
  refine keepsW (T := Tjg) (A := ann125) hMix keepTjg hGT (calls_of (by kernel_rfl)) (callsW_of (by kernel_rfl)) fun args ⟨ts, _⟩ w0 hrd hpre hg => ?_
  obtain ⟨x, _, rfl, hl, rfl⟩ := hrd
  dsimp only at hl hpre
  replace hl : LsT w0 x ts := hl
  refine ⟨[.x (.v 0)], [], [], 2, env0 [x] w0, fun b => b, 0, rfl, rfl, fun X hX => mem_none hX rfl, fun X hP hS hw hX hR => ?_⟩
  subst hw; try dsimp only at hR
  rw [vc125 X]
  rw [ask_zero4]; intro b0 hb0
  refine a_len hP tyT hl.1 ?_
  rw [ask_lssN]
  refine a_ifD (fun hlt => ?_) fun hge => ?_
  · refine call_W hX hS (T := Tjg) (f := 121) rfl (ts, ()) (fun w hw => ⟨⟨_, _, rfl, hl.stp0 (hw.kn.stp0 hX), rfl⟩, by show ts.length ≤ 1000; omega⟩) fun v w w' h k s su hv => ?_
    dsimp only at hv
    subst hv
    rw [ask_aggS]
    exact hR _ _ _ _ fun _ _ => rfl
  · refine call_W hX hS (T := Tjg) (f := 122) rfl (ts, ()) (fun w hw => ⟨⟨_, _, rfl, hl.stp0 (hw.kn.stp0 hX), rfl⟩, hpre⟩) fun v w w' h k s su hv => ?_
    obtain ⟨c1, c2, rfl⟩ := hv
    dsimp only
    rw [ask_ext0, ask_ext1, ask_zero4]
    intro b1 hb1 b2 hb2
    rw [ask_aggS]
    refine a_agg (cs := [.int .i64 c1, .int .i64 c2]) rfl rfl (a_sel1 rfl (a_sel1 rfl ?_))
    rw [ask_aggS]
    exact hR _ _ _ _ fun _ _ => rfl
/-! ### Commit -/
def Tjc : Table := T0.add 125 cGsj
theorem keepTjc : AllKeep Tryz.prog GT Tjc := keepT0.add keepsGsj
def ann90 : Ann := ⟨[], [], 70, [(125, false)], [4, 5, 6], none, [], []⟩
def kb90_0 (b0 b1 b2 b3 : Nat) (x5 x6 x7 x8 x9 x10 x11 x12 x13 x14 x15 x16 x17 x18 x19 x20 x21 : Value) : List KB := [⟨b0, true, 42, #[x5, x6, x7, x8, x9, x10, x11, x12, x13, x14, x15, x16, x17, x18]⟩, ⟨b1, true, 29, (aggArr x19)⟩, ⟨b2, true, 29, (aggArr x20)⟩, ⟨b3, true, 31, (aggArr x21)⟩]
theorem vc90 (X : Ctx) (β : Nat → Nat) (x0 x1 x2 : Value) : (run Tryz.prog ann90 90 [.x (.v 0), .x (.v 1), .x (.v 2)] [] [] 4).den X (env0 [x0, x1, x2] X.w0) 4 β 0 (fun _ _ _ => False) = (
 Ask (rAgg 14 x0) fun x4 =>
 Ask (rSel (aggArr x4) 0 1 false) fun x5 =>
 Ask (rSel (aggArr x4) 1 1 false) fun x6 =>
 Ask (rSel (aggArr x4) 2 1 false) fun x7 =>
 Ask (rSel (aggArr x4) 3 1 false) fun x8 =>
 Ask (rSel (aggArr x4) 4 1 false) fun x9 =>
 Ask (rSel (aggArr x4) 5 1 false) fun x10 =>
 Ask (rSel (aggArr x4) 6 1 false) fun x11 =>
 Ask (rSel (aggArr x4) 7 1 false) fun x12 =>
 Ask (rSel (aggArr x4) 8 1 false) fun x13 =>
 Ask (rSel (aggArr x4) 9 1 false) fun x14 =>
 Ask (rSel (aggArr x4) 10 1 false) fun x15 =>
 Ask (rSel (aggArr x4) 11 1 false) fun x16 =>
 Ask (rSel (aggArr x4) 12 1 false) fun x17 =>
 Ask (rSel (aggArr x4) 13 1 false) fun x18 =>
 AskNew X.w0 fun b0 =>
 Ask (rAgg 4 x1) fun x19 =>
 AskNew X.w0 fun b1 =>
 Ask (rAgg 4 x2) fun x20 =>
 AskNew X.w0 fun b2 =>
 Ask (rAgg 4 (.agg #[(U 0), (U 0), (U 0), (U 0)])) fun x21 =>
 AskNew X.w0 fun b3 =>
 Ask (rAgg 4 x19) fun x22 =>
 Ask (rSel (aggArr x22) 0 1 false) fun x23 =>
 Ask (rSel (aggArr x22) 1 1 false) fun x24 =>
 Ask (rSel (aggArr x22) 2 1 false) fun x25 =>
 Ask (rSel (aggArr x22) 3 1 false) fun x26 =>
 Ask (rAgg 4 x20) fun x27 =>
 Ask (rSel (aggArr x27) 0 1 false) fun x28 =>
 Ask (rSel (aggArr x27) 1 1 false) fun x29 =>
 Ask (rSel (aggArr x27) 2 1 false) fun x30 =>
 Ask (rSel (aggArr x27) 3 1 false) fun x31 =>
 AskO X X.w0 [] (kb90_0 b0 b1 b2 b3 x5 x6 x7 x8 x9 x10 x11 x12 x13 x14 x15 x16 x17 x18 x19 x20 x21) false (Op.buildSlice 143 2 #[(0, Operand.tmp 10), (1, Operand.tmp 14)]) 143 [(10, (.agg #[x23, x24, x25, x26, x5, x6, x7, x8])), (14, (.agg #[x28, x29, x30, x31, x9, x10, x11, x12]))] fun x32 w32 =>
 AskW X w32 [] (kb90_0 b0 b1 b2 b3 x5 x6 x7 x8 x9 x10 x11 x12 x13 x14 x15 x16 x17 x18 x19 x20 x21) false 125 [x32] fun x33 w33 =>
 Ask (rAgg 4 x33) fun x34 =>
 Ret X w33 [b3] [] x34) := by kernel_rfl
def cSj : Cod Nat := ⟨fun _ v n => v = S n ∧ n < W256, fun _ _ _ _ h k => S_inj h.2 k.2 (h.1.symm.trans k.1)⟩
def cCmj : Contract := fnW (Cods.cons cSetN (Cods.cons cSj (Cods.cons cSj Cods.nil))) (fun _ _ => True) (fun p _ v _ => v = S (rF p.2.1 * rF p.1.1 + rF p.2.2.1 * rF p.1.2.1).val)
theorem sumT_two (a b : Nat × Nat) : sumT [a, b] = rF a.1 * rF a.2 + rF b.1 * rF b.2 := by
  rw [show [a, b] = ([] ++ [a]) ++ [b] from rfl, sumT_snoc, sumT_snoc, sumT_nil]; grind
theorem keepsCmj : Keeps1 Tryz.prog GT 90 cCmj := by
  refine keepsW (T := Tjc) (A := ann90) hMix keepTjc hGT (calls_of (by kernel_rfl)) (callsW_of (by kernel_rfl)) fun args ⟨p, c, d, _⟩ w0 hrd hpre hg => ?_
  obtain ⟨_, _, rfl, ⟨okp, g, h, rfl, hg, hh⟩, _, _, rfl, ⟨rfl, hc⟩, _, _, rfl, ⟨rfl, hd⟩, rfl⟩ := hrd
  dsimp only at okp hg hh hc hd
  refine ⟨[.x (.v 0), .x (.v 1), .x (.v 2)], [], [], 4, env0 [.agg (setL p g h).toArray, S c, S d] w0, fun b => b, 0, rfl, rfl, fun X hX => mem_none hX rfl, fun X hP hS hw hX hR => ?_⟩
  subst hw; try dsimp only at hR
  rw [vc90 X]
  refine a_agg (setL_len _ _ _) (setL_one (slAt_one hg.1) (slAt_one hh.1)) ?_
  iterate 14 refine a_sel1 rfl ?_
  intro b0 hb0
  rw [ask_aggS]; intro b1 hb1
  rw [ask_aggS]; intro b2 hb2
  rw [ask_zero4]; intro b3 hb3
  rw [ask_aggS, ask_selS0, ask_selS1, ask_selS2, ask_selS3, ask_aggS, ask_selS0, ask_selS1, ask_selS2, ask_selS3]
  refine a_build ([(c, p.1), (d, p.2.1)].flatMap encT).toArray hX hP tyT (by decide) (by decide) (by kernel_rfl) rfl (by decide) fun g w w' h k s su o => ?_
  refine call_W hX hS (T := Tjc) (f := 125) rfl ([(c, p.1), (d, p.2.1)], ()) (fun w2 hw => ⟨⟨_, _, rfl, (⟨(own_slAt o).stp0 hw.stp, fun t ht => by
    simp only [List.mem_cons, List.not_mem_nil, or_false] at ht
    rcases ht with rfl | rfl
    · exact ⟨hc, okp.1⟩
    · exact ⟨hd, okp.2.1⟩⟩ : Ls encT okTj _ _ _), rfl⟩, by simp⟩) fun v w2 w2' h2' k2 s2 su2 hv => ?_
  dsimp only at hv
  subst hv
  rw [ask_aggS, sumT_two]
  exact hR _ _ _ _ fun _ _ => rfl
def ann91 : Ann := ⟨[(6, ([11, 38], [])), (11, ([11, 56], []))], [], 70, [(125, false)], [7, 8, 10, 13, 15], none, [], []⟩
def kb91_0 (b0 b1 b2 b3 : Nat) (x6 x7 x8 x9 x10 x11 x12 x13 x14 x15 x16 x17 x18 x19 x20 x21 x22 : Value) : List KB := [⟨b0, true, 42, #[x6, x7, x8, x9, x10, x11, x12, x13, x14, x15, x16, x17, x18, x19]⟩, ⟨b1, true, 29, (aggArr x20)⟩, ⟨b2, true, 31, (aggArr x21)⟩, ⟨b3, true, 31, (aggArr x22)⟩]
def kb91_1 (b0 b1 b2 b3 b4 : Nat) (x6 x7 x8 x9 x10 x11 x12 x13 x14 x15 x16 x17 x18 x19 x20 x21 x22 x44 : Value) : List KB := [⟨b0, true, 42, #[x6, x7, x8, x9, x10, x11, x12, x13, x14, x15, x16, x17, x18, x19]⟩, ⟨b1, true, 29, (aggArr x20)⟩, ⟨b2, true, 31, (aggArr x21)⟩, ⟨b3, true, 31, (aggArr x22)⟩, ⟨b4, true, 29, (aggArr x44)⟩]
def kb91_2 (b0 b1 b2 b3 b4 : Nat) (x6 x7 x8 x9 x10 x11 x12 x13 x14 x15 x16 x17 x18 x19 x20 x21 x22 x49 : Value) : List KB := [⟨b0, true, 42, #[x6, x7, x8, x9, x10, x11, x12, x13, x14, x15, x16, x17, x18, x19]⟩, ⟨b1, true, 29, (aggArr x20)⟩, ⟨b2, true, 31, (aggArr x21)⟩, ⟨b3, true, 31, (aggArr x22)⟩, ⟨b4, true, 29, (aggArr x49)⟩]
theorem vc91 (X : Ctx) (β : Nat → Nat) (x0 x1 x2 x3 : Value) : (run Tryz.prog ann91 91 [.x (.v 0), .x (.v 1), .x (.v 2), .x (.v 3)] [] [] 5).den X (env0 [x0, x1, x2, x3] X.w0) 5 β 0 (fun _ _ _ => False) = (
 Ask (rAgg 14 x0) fun x5 =>
 Ask (rSel (aggArr x5) 0 1 false) fun x6 =>
 Ask (rSel (aggArr x5) 1 1 false) fun x7 =>
 Ask (rSel (aggArr x5) 2 1 false) fun x8 =>
 Ask (rSel (aggArr x5) 3 1 false) fun x9 =>
 Ask (rSel (aggArr x5) 4 1 false) fun x10 =>
 Ask (rSel (aggArr x5) 5 1 false) fun x11 =>
 Ask (rSel (aggArr x5) 6 1 false) fun x12 =>
 Ask (rSel (aggArr x5) 7 1 false) fun x13 =>
 Ask (rSel (aggArr x5) 8 1 false) fun x14 =>
 Ask (rSel (aggArr x5) 9 1 false) fun x15 =>
 Ask (rSel (aggArr x5) 10 1 false) fun x16 =>
 Ask (rSel (aggArr x5) 11 1 false) fun x17 =>
 Ask (rSel (aggArr x5) 12 1 false) fun x18 =>
 Ask (rSel (aggArr x5) 13 1 false) fun x19 =>
 AskNew X.w0 fun b0 =>
 Ask (rAgg 4 x3) fun x20 =>
 AskNew X.w0 fun b1 =>
 Ask (rAgg 4 (.agg #[(U 0), (U 0), (U 0), (U 0)])) fun x21 =>
 AskNew X.w0 fun b2 =>
 Ask (rAgg 4 (.agg #[(U 0), (U 0), (U 0), (U 0)])) fun x22 =>
 AskNew X.w0 fun b3 =>
 Ask (rLen X.P 28 x1) fun x23 =>
 Ask (rLen X.P 40 x18) fun x24 =>
 Ask (rBin X.P .gtr 3 false false x23 x24) fun x25 =>
 AskG [(x25, false)] (rLen X.P 28 x2) fun x26 =>
 AskG [(x25, false)] (rLen X.P 40 x19) fun x27 =>
 AskG [(x25, false)] (rBin X.P .gtr 3 false false x26 x27) fun x28 =>
 Ask (rPick x25 (.bool true) x28) fun x29 =>
 (∃ t, x29 = .bool t) ∧ (x29 = .bool true →
 Ask (rAgg 4 x22) fun x30 =>
 Ret X X.w0 [b2] [] (.tuple #[x30, (J 2)])) ∧ (x29 = .bool false →
 Ask (rAgg 4 x20) fun x30 =>
 Ask (rSel (aggArr x30) 0 1 false) fun x31 =>
 Ask (rSel (aggArr x30) 1 1 false) fun x32 =>
 Ask (rSel (aggArr x30) 2 1 false) fun x33 =>
 Ask (rSel (aggArr x30) 3 1 false) fun x34 =>
 AskO X X.w0 [] (kb91_0 b0 b1 b2 b3 x6 x7 x8 x9 x10 x11 x12 x13 x14 x15 x16 x17 x18 x19 x20 x21 x22) false (Op.buildSlice 143 1 #[(0, Operand.tmp 34)]) 143 [(34, (.agg #[x31, x32, x33, x34, x10, x11, x12, x13]))] fun x35 w35 =>
 Ask (rLen X.P 28 x1) fun x36 =>
 ∃ (I0 : List Value → World → Prop) (μ0 : List Value → World → Nat), (∀ w, KnownV X w35 [] (kb91_0 b0 b1 b2 b3 x6 x7 x8 x9 x10 x11 x12 x13 x14 x15 x16 x17 x18 x19 x20 x21 x22) w → I0 [x35, (J 0)] w) ∧ ∀ x37 x38 w39, I0 [x37, x38] w39 →
 Ask (rBin X.P .lss 3 false false x38 x36) fun x40 =>
 (∃ t, x40 = .bool t) ∧ (x40 = .bool true →
 Ask (rIad X.P 28 x1 x38) fun x41 =>
 Ask (rLoad X w39 [] 29 x41) fun x42 =>
 Ask (rAgg 4 (.agg #[(U 0), (U 0), (U 0), (U 0)])) fun _ =>
 AskNew w39 fun b4 =>
 Ask (rAgg 4 x42) fun x44 =>
 Ask (rIad X.P 40 x18 x38) fun x45 =>
 Ask (rLoad X w39 [b4] 31 x45) fun x46 =>
 Ask (rAgg 4 x44) fun x47 =>
 Ask (rSel (aggArr x47) 0 1 false) fun x48 =>
 Ask (rSel (aggArr x47) 1 1 false) fun x49 =>
 Ask (rSel (aggArr x47) 2 1 false) fun x50 =>
 Ask (rSel (aggArr x47) 3 1 false) fun x51 =>
 Ask (rAgg 4 x46) fun x52 =>
 Ask (rSel (aggArr x52) 0 1 false) fun x53 =>
 Ask (rSel (aggArr x52) 1 1 false) fun x54 =>
 Ask (rSel (aggArr x52) 2 1 false) fun x55 =>
 Ask (rSel (aggArr x52) 3 1 false) fun x56 =>
 AskO X w39 [b4] (kb91_1 b0 b1 b2 b3 b4 x6 x7 x8 x9 x10 x11 x12 x13 x14 x15 x16 x17 x18 x19 x20 x21 x22 x44) false (Op.buildSlice 143 1 #[(0, Operand.tmp 50)]) 143 [(50, (.agg #[x48, x49, x50, x51, x53, x54, x55, x56]))] fun x57 w57 =>
 AskO X w57 [] (kb91_1 b0 b1 b2 b3 b4 x6 x7 x8 x9 x10 x11 x12 x13 x14 x15 x16 x17 x18 x19 x20 x21 x22 x44) true (appOp (.tmp 43) (.tmp 51) 143) 143 [(43, x37), (51, x57)] fun x58 w58 =>
 Ask (rBin X.P .add 3 false true x38 (J 1)) fun x59 =>
 Again X w58 [] [] fun w => I0 [x58, x59] w ∧ μ0 [x58, x59] w < μ0 [x37, x38] w39) ∧ (x40 = .bool false →
 Ask (rLen X.P 28 x2) fun x41 =>
 ∃ (I0 : List Value → World → Prop) (μ0 : List Value → World → Nat), (∀ w, KnownV X w39 [] (kb91_0 b0 b1 b2 b3 x6 x7 x8 x9 x10 x11 x12 x13 x14 x15 x16 x17 x18 x19 x20 x21 x22) w → I0 [x37, (J 0)] w) ∧ ∀ x42 x43 w44, I0 [x42, x43] w44 →
 Ask (rBin X.P .lss 3 false false x43 x41) fun x45 =>
 (∃ t, x45 = .bool t) ∧ (x45 = .bool true →
 Ask (rIad X.P 28 x2 x43) fun x46 =>
 Ask (rLoad X w44 [] 29 x46) fun x47 =>
 Ask (rAgg 4 (.agg #[(U 0), (U 0), (U 0), (U 0)])) fun _ =>
 AskNew w44 fun b4 =>
 Ask (rAgg 4 x47) fun x49 =>
 Ask (rIad X.P 40 x19 x43) fun x50 =>
 Ask (rLoad X w44 [b4] 31 x50) fun x51 =>
 Ask (rAgg 4 x49) fun x52 =>
 Ask (rSel (aggArr x52) 0 1 false) fun x53 =>
 Ask (rSel (aggArr x52) 1 1 false) fun x54 =>
 Ask (rSel (aggArr x52) 2 1 false) fun x55 =>
 Ask (rSel (aggArr x52) 3 1 false) fun x56 =>
 Ask (rAgg 4 x51) fun x57 =>
 Ask (rSel (aggArr x57) 0 1 false) fun x58 =>
 Ask (rSel (aggArr x57) 1 1 false) fun x59 =>
 Ask (rSel (aggArr x57) 2 1 false) fun x60 =>
 Ask (rSel (aggArr x57) 3 1 false) fun x61 =>
 AskO X w44 [b4] (kb91_2 b0 b1 b2 b3 b4 x6 x7 x8 x9 x10 x11 x12 x13 x14 x15 x16 x17 x18 x19 x20 x21 x22 x49) false (Op.buildSlice 143 1 #[(0, Operand.tmp 68)]) 143 [(68, (.agg #[x53, x54, x55, x56, x58, x59, x60, x61]))] fun x62 w62 =>
 AskO X w62 [] (kb91_2 b0 b1 b2 b3 b4 x6 x7 x8 x9 x10 x11 x12 x13 x14 x15 x16 x17 x18 x19 x20 x21 x22 x49) true (appOp (.tmp 61) (.tmp 69) 143) 143 [(61, x42), (69, x62)] fun x63 w63 =>
 Ask (rBin X.P .add 3 false true x43 (J 1)) fun x64 =>
 Again X w63 [] [] fun w => I0 [x63, x64] w ∧ μ0 [x63, x64] w < μ0 [x42, x43] w44) ∧ (x45 = .bool false →
 AskW X w44 [] (kb91_0 b0 b1 b2 b3 x6 x7 x8 x9 x10 x11 x12 x13 x14 x15 x16 x17 x18 x19 x20 x21 x22) false 125 [x42] fun x46 w46 =>
 Ask (rAgg 4 x46) fun x47 =>
 Ret X w46 [b2] [] (.tuple #[x47, (J 0)]))))) := by kernel_rfl
def prF (a G : List Nat) (n : Nat) : F := sumF' (fun i => rF (a.getD i 0) * rF (G.getD i 0)) n
def cCvj : Contract := fnW (Cods.cons cSetN (Cods.cons cLS (Cods.cons cLS (Cods.cons cSj Cods.nil)))) (fun p _ => p.2.1.length ≤ p.1.2.2.2.1.length ∧ p.2.2.1.length ≤ p.1.2.2.2.2.length ∧ p.2.1.length + p.2.2.1.length ≤ 122)
  (fun p _ v _ => v = .tuple #[S (rF p.2.2.2.1 * rF p.1.2.1 + prF p.2.1 p.1.2.2.2.1 p.2.1.length + prF p.2.2.1 p.1.2.2.2.2 p.2.2.1.length).val, J 0])
theorem getD_okSj {l : List Nat} (h : ∀ x ∈ l, okS x) (i : Nat) : l.getD i 0 < W256 := by
  rw [List.getD_eq_getElem?_getD]
  cases hj : l[i]? with
  | none => exact show 0 < W256 by decide
  | some x => exact h x (List.mem_of_getElem? hj)
theorem ld_LN {X : Ctx} {u : World} {v : Value} {n i : Nat} {ow : List Nat} {K : Value → Prop} {l : List Nat} (hP : X.P = Tryz.prog) (hk : Kn X u) (h : SlAt u v n (l.flatMap encS)) (hn : l.length = n) (hi : i < l.length) (how : ∀ b, v.ownBlock = some b → b ∉ ow)
    (hK : K (S (l.getD i 0))) : Ask (rIad X.P 40 v (J i)) fun p => Ask (rLoad X u ow 31 p) K := by
  have e : l.getD i 0 = l[i] := by rw [List.getD_eq_getElem?_getD, List.getElem?_eq_getElem hi]; rfl
  refine a_iadN hP tyL h (by omega) ?_
  refine a_load_agg (cs := encS l[i]) hk h (by rw [hP]; exact aggL) (by rw [hP]; exact szL) how (by simp [encS]) (flat_at encS_len l i _ (List.getElem?_eq_getElem hi)) ?_
  rw [← e]; exact hK
/-- One term more in a single list. -/
theorem terms_okj {bl Bl : Nat} {a G b H : List Nat} (h1 : bl < W256) (h2 : Bl < W256) (ha : ∀ x ∈ a, okS x) (hG : ∀ x ∈ G, okS x) (hb : ∀ x ∈ b, okS x) (hH : ∀ x ∈ H, okS x) (n k : Nat) : ∀ t ∈ ([(bl, Bl)] ++ mapN (fun i => (a.getD i 0, G.getD i 0)) n) ++ mapN (fun i => (b.getD i 0, H.getD i 0)) k, okTj t := fun t ht => by
  simp only [List.mem_append, List.mem_singleton, mapN, List.mem_map, List.mem_range] at ht
  rcases ht with (rfl | ⟨i, _, rfl⟩) | ⟨i, _, rfl⟩
  · exact ⟨h1, h2⟩
  · exact ⟨getD_okSj ha i, getD_okSj hG i⟩
  · exact ⟨getD_okSj hb i, getD_okSj hH i⟩
set_option maxHeartbeats 2000000 in
theorem keepsCvj : Keeps1 Tryz.prog GT 91 cCvj := by
  refine keepsW (T := Tjc) (A := ann91) hMix keepTjc hGT (calls_of (by kernel_rfl)) (callsW_of (by kernel_rfl)) fun args ⟨p, a, b, d, _⟩ w0 hrd hpre hg => ?_
  obtain ⟨_, _, rfl, ⟨okp, g, h, rfl, hg, hh⟩, va, _, rfl, ha, vb, _, rfl, hb, _, _, rfl, ⟨rfl, hd⟩, rfl⟩ := hrd
  obtain ⟨la, lb', lab⟩ := hpre
  dsimp only at okp hg hh hd ha hb la lb' lab
  replace hg : LsS w0 g p.2.2.2.1 := hg
  replace hh : LsS w0 h p.2.2.2.2 := hh
  replace ha : LsS w0 va a := ha
  replace hb : LsS w0 vb b := hb
  refine ⟨[.x (.v 0), .x (.v 1), .x (.v 2), .x (.v 3)], [], [], 5, env0 [.agg (setL p g h).toArray, va, vb, S d] w0, fun b => b, 0, rfl, rfl, fun X hX => mem_none hX rfl, fun X hP hS hw hX hR => ?_⟩
  subst hw; try dsimp only at hR
  rw [vc91 X]
  refine a_agg (setL_len _ _ _) (setL_one (slAt_one hg.1) (slAt_one hh.1)) ?_
  iterate 14 refine a_sel1 rfl ?_
  intro b0 hb0
  rw [ask_aggS]; intro b1 hb1
  rw [ask_zero4]; intro b2 hb2
  rw [ask_zero4]; intro b3 hb3
  refine a_len hP tySI ha.1 ?_
  refine a_len hP tyL hg.1 ?_
  rw [ask_gtrN, decide_eq_false (by omega)]
  refine a_G_on condsV1 (a_len hP tySI hb.1 ?_)
  refine a_G_on condsV1 (a_len hP tyL hh.1 ?_)
  refine a_G_on condsV1 ?_
  rw [ask_gtrN, decide_eq_false (by omega), ask_pickF]
  refine a_if (fun h => by cases h) fun _ => ?_
  rw [ask_aggS, ask_selS0, ask_selS1, ask_selS2, ask_selS3]
  refine a_build ([(d, p.2.1)].flatMap encT).toArray hX hP tyT (by decide) (by decide) (by kernel_rfl) rfl (by decide) fun gt w1 w2 h1 k2 s2 su2 o2 => ?_
  have lo : ∀ q ∈ [b0, b1, b2, b3], q < w1.heap.size := fun q hq => h1.low (by simpa [kb91_0] using hq)
  have gt1 : w1.heap.size ≤ gt := (o2.lt gt rfl).1
  have z1 := h1.size
  have hm2 : MRows X.w0 w2 142 8 encT [b3, b2, b1, b0] 1 (fun _ => .slice (some ⟨gt, 0, none⟩) 1 1) (fun _ => [(d, p.2.1)] ++ mapN (fun i => (a.getD i 0, p.2.2.2.1.getD i 0)) 0) :=
    ⟨su2, fun j hj => own_mono o2 z1, fun i j g hi hj _ _ => by omega, fun j hj g hg hm => by
      simp only [Value.ownBlock, Option.some.injEq] at hg
      subst hg
      have := lo gt (by simpa [or_comm, or_left_comm, or_assoc] using hm)
      omega⟩
  refine a_len hP tySI ha.1 ?_
  refine ⟨fun q w => ∃ (i : Nat) (o : Value), q = [o, J i] ∧ i ≤ a.length ∧ Kn X w ∧ MRows X.w0 w 142 8 encT [b3, b2, b1, b0] 1 (fun _ => o) (fun _ => [(d, p.2.1)] ++ mapN (fun i => (a.getD i 0, p.2.2.2.1.getD i 0)) i), fun q _ => match q with | [_, i] => a.length - intNat i | _ => 0, fun w hw => ⟨0, _, rfl, Nat.zero_le _, hw.kn, hm2.stp hw.stp⟩, ?_⟩
  rintro _ _ w ⟨i, o, he, hi, hk, hm⟩
  simp only [List.cons.injEq, and_true] at he
  obtain ⟨rfl, rfl⟩ := he
  have s0 := hk.stp0 hX
  have z0 := hk.sz0
  rw [ask_lssN]
  refine a_ifD (fun hlt => ?_) fun hge => ?_
  · refine ld_SN hP hk (ha.1.stp0 s0) rfl hlt (fun _ _ => List.not_mem_nil) ?_
    rw [ask_zero4]; intro b4 hb4
    rw [ask_aggS]
    refine ld_LN hP hk (hg.1.stp0 s0) rfl (by omega) (slAt_off hg.1 (by rw [flat_len encS_len]; omega) (by simpa using Nat.le_trans z0 hb4)) ?_
    rw [ask_aggS, ask_selS0, ask_selS1, ask_selS2, ask_selS3, ask_aggS, ask_selS0, ask_selS1, ask_selS2, ask_selS3]
    have hlen : ([(d, p.2.1)] ++ mapN (fun i => (a.getD i 0, p.2.2.2.1.getD i 0)) i).length = 1 + i := by rw [List.length_append, mapN_len]; rfl
    refine a_pushR [(a.getD i 0, p.2.2.2.1.getD i 0)] 1 rfl hX hP tyT rfl rfl (by decide) encT_len (hm.more hb4) (i := 0) (by decide) rfl (Nat.le_refl _) (fun b hb => .inr (by simpa [kb91_1, or_comm, or_left_comm, or_assoc] using hb)) (fun b hb => by simpa [kb91_1, or_comm, or_left_comm, or_assoc] using hb) (fun b hb => ⟨by simp at hb; simp [hb], by simp at hb; subst hb; omega⟩) (by decide) (by decide) (by kernel_rfl) (by simp [one_encTj]) (by rw [hlen]; unfold maxLen; omega) (by rw [hlen]; omega) fun v' w2 k2 z2 hm2 => ?_
    rw [ask_succ (by omega)]
    intro w3 hw3
    refine ⟨⟨i + 1, v', rfl, hlt, hw3.kn, ((hm2.stp hw3.stp).less (fun b hb => List.mem_cons_of_mem _ hb)).congrV (fun j hj => ?_) (fun j hj => ?_)⟩, by simp [intNat]; omega⟩
    · obtain rfl : j = 0 := by omega
      rfl
    · obtain rfl : j = 0 := by omega
      show ([(d, p.2.1)] ++ mapN _ i) ++ [_] = _
      rw [List.append_assoc, ← mapN_succ]
  obtain rfl : i = a.length := by omega
  refine a_len hP tySI hb.1 ?_
  refine ⟨fun q w => ∃ (i : Nat) (o : Value), q = [o, J i] ∧ i ≤ b.length ∧ Kn X w ∧ MRows X.w0 w 142 8 encT [b3, b2, b1, b0] 1 (fun _ => o) (fun _ => ([(d, p.2.1)] ++ mapN (fun i => (a.getD i 0, p.2.2.2.1.getD i 0)) a.length) ++ mapN (fun i => (b.getD i 0, p.2.2.2.2.getD i 0)) i), fun q _ => match q with | [_, i] => b.length - intNat i | _ => 0, fun w hw => ⟨0, _, rfl, Nat.zero_le _, hw.kn, by rw [show mapN (fun i => (b.getD i 0, p.2.2.2.2.getD i 0)) 0 = [] from rfl, List.append_nil]; exact hm.stp hw.stp⟩, ?_⟩
  rintro _ _ w ⟨i, o, he, hi, hk, hm⟩
  simp only [List.cons.injEq, and_true] at he
  obtain ⟨rfl, rfl⟩ := he
  have s0 := hk.stp0 hX
  have z0 := hk.sz0
  have hlen : (([(d, p.2.1)] ++ mapN (fun i => (a.getD i 0, p.2.2.2.1.getD i 0)) a.length) ++ mapN (fun i => (b.getD i 0, p.2.2.2.2.getD i 0)) i).length = 1 + a.length + i := by rw [List.length_append, List.length_append, mapN_len, mapN_len]; rfl
  rw [ask_lssN]
  refine a_ifD (fun hlt => ?_) fun hge => ?_
  · refine ld_SN hP hk (hb.1.stp0 s0) rfl hlt (fun _ _ => List.not_mem_nil) ?_
    rw [ask_zero4]; intro b4 hb4
    rw [ask_aggS]
    refine ld_LN hP hk (hh.1.stp0 s0) rfl (by omega) (slAt_off hh.1 (by rw [flat_len encS_len]; omega) (by simpa using Nat.le_trans z0 hb4)) ?_
    rw [ask_aggS, ask_selS0, ask_selS1, ask_selS2, ask_selS3, ask_aggS, ask_selS0, ask_selS1, ask_selS2, ask_selS3]
    refine a_pushR [(b.getD i 0, p.2.2.2.2.getD i 0)] 1 rfl hX hP tyT rfl rfl (by decide) encT_len (hm.more hb4) (i := 0) (by decide) rfl (Nat.le_refl _) (fun b hb => .inr (by simpa [kb91_2, or_comm, or_left_comm, or_assoc] using hb)) (fun b hb => by simpa [kb91_2, or_comm, or_left_comm, or_assoc] using hb) (fun b hb => ⟨by simp at hb; simp [hb], by simp at hb; subst hb; omega⟩) (by decide) (by decide) (by kernel_rfl) (by simp [one_encTj]) (by rw [hlen]; unfold maxLen; omega) (by rw [hlen]; omega) fun v' w2 k2 z2 hm2 => ?_
    rw [ask_succ (by omega)]
    intro w3 hw3
    refine ⟨⟨i + 1, v', rfl, hlt, hw3.kn, ((hm2.stp hw3.stp).less (fun b hb => List.mem_cons_of_mem _ hb)).congrV (fun j hj => ?_) (fun j hj => ?_)⟩, by simp [intNat]; omega⟩
    · obtain rfl : j = 0 := by omega
      rfl
    · obtain rfl : j = 0 := by omega
      show (_ ++ mapN _ i) ++ [_] = _
      rw [List.append_assoc, ← mapN_succ]
  obtain rfl : i = b.length := by omega
  have hrow := own_slAt (hm.row 0 (by decide))
  refine call_W hX hS (T := Tjc) (f := 125) rfl (_, ()) (fun w2 hw => ⟨⟨_, _, rfl, (⟨hrow.stp0 hw.stp, terms_okj hd okp.2.1 ha.2 hg.2 hb.2 hh.2 _ _⟩ : Ls encT okTj _ _ _), rfl⟩, by show List.length _ ≤ 123; rw [hlen]; omega⟩) fun v w2 w2' h2' k2 s2 su2 hv => ?_
  dsimp only at hv
  subst hv
  rw [ask_aggS, sumT_app, sumT_app, show [(d, p.2.1)] = [] ++ [(d, p.2.1)] from rfl, sumT_snoc, sumT_nil, show (0 : F) + rF d * rF p.2.1 = rF d * rF p.2.1 by grind]
  exact hR _ _ _ _ fun _ _ => rfl
#print axioms keepsCvj
end Go.Vc
