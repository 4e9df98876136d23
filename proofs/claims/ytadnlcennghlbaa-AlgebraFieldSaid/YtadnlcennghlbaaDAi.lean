/-
  Lists over Seven: product, division, inverses.
-/
import Derived.Test.YtadnlcennghlbaaDAd
import Derived.Test.YtadnlcennghlbaaDAf
import Derived.Test.YtadnlcennghlbaaDAh
namespace Go.Vc
open Go Go.Proofs Go.RowKit
theorem made_7 (n : Nat) : (madeCells (Value.agg #[J 0]).cells (n * 1)).toList = (List.replicate n sR.zero).flatMap encS7 := made_enc (α := Int) (enc := encS7) (a := sR.zero) (s := 1) (by kernel_rfl) rfl (by decide) n
def ann29 : Ann := ⟨[(5, ([27], [])), (8, ([34], []))], [], 70, [], [], none, [], []⟩
def kb29_0 (b0 : Nat) (x20 : Value) : List KB := [⟨b0, true, 27, #[x20]⟩]
def kb29_1 (b0 b1 : Nat) (x20 x28 : Value) : List KB := [⟨b0, true, 27, #[x20]⟩, ⟨b1, true, 27, #[x28]⟩]
theorem vc29 (X : Ctx) (β : Nat → Nat) (x0 x1 : Value) : (run Try.prog ann29 29 [.x (.v 0), .x (.v 1)] [] [] 3).den X (env0 [x0, x1] X.w0) 3 β 0 (fun _ _ _ => False) = (
 Ask (rLen X.P 24 x0) fun x3 =>
 Ask (rBin X.P .eql 3 false true x3 (J 0)) fun x4 =>
 AskG [(x4, false)] (rLen X.P 24 x1) fun x5 =>
 AskG [(x4, false)] (rBin X.P .eql 3 false true x5 (J 0)) fun x6 =>
 Ask (rPick x4 (.bool true) x6) fun x7 =>
 (∃ t, x7 = .bool t) ∧ (x7 = .bool true →
 Ret X X.w0 [] [] (.slice none 0 0)) ∧ (x7 = .bool false →
 Ask (rLen X.P 24 x0) fun x8 =>
 Ask (rLen X.P 24 x1) fun x9 =>
 Ask (rBin X.P .add 3 false false x8 x9) fun x10 =>
 Ask (rBin X.P .sub 3 false true x10 (J 1)) fun x11 =>
 AskO X X.w0 [] [] false (Op.makeSlice 24 (Operand.tmp 23) (Operand.tmp 23)) 24 [(23, x11), (23, x11)] fun x12 w12 =>
 Ask (rLen X.P 24 x0) fun x13 =>
 ∃ (I0 : List Value → World → Prop) (μ0 : List Value → World → Nat), (∀ w, KnownV X w12 [] [] w → I0 [(J 0)] w) ∧ ∀ x14 w15, I0 [x14] w15 →
 Ask (rBin X.P .lss 3 false false x14 x13) fun x16 =>
 (∃ t, x16 = .bool t) ∧ (x16 = .bool true →
 Ask (rIad X.P 24 x0 x14) fun x17 =>
 Ask (rLoad X w15 [] 27 x17) fun x18 =>
 AskNew w15 fun b0 =>
 Ask (rAgg 1 x18) fun x19 =>
 Ask (rSel (aggArr x19) 0 1 false) fun x20 =>
 Ask (rLen X.P 24 x1) fun x21 =>
 ∃ (I1 : List Value → World → Prop) (μ1 : List Value → World → Nat), (∀ w, KnownV X w15 [b0] (kb29_0 b0 x20) w → I1 [(J 0)] w) ∧ ∀ x22 w23, I1 [x22] w23 →
 Ask (rBin X.P .lss 3 false false x22 x21) fun x24 =>
 (∃ t, x24 = .bool t) ∧ (x24 = .bool true →
 Ask (rIad X.P 24 x1 x22) fun x25 =>
 Ask (rLoad X w23 [] 27 x25) fun x26 =>
 AskNew w23 fun b1 =>
 Ask (rAgg 1 x26) fun x27 =>
 Ask (rSel (aggArr x27) 0 1 false) fun x28 =>
 Ask (rBin X.P .add 3 false false x14 x22) fun x29 =>
 Ask (rBin X.P .add 3 false false x14 x22) fun x30 =>
 Ask (rIad X.P 24 x12 x30) fun x31 =>
 Ask (rLoad X w23 [b1] 27 x31) fun x32 =>
 Ask (rGen X.P (Op.makeInterface 27 (Operand.tmp 48)) 20 [(48, x32)]) fun x33 =>
 Ask (rGen X.P (Op.makeInterface 27 (Operand.tmp 50)) 20 [(50, (.agg #[x20]))]) fun x34 =>
 AskI X x34 "Mul" [(.agg #[x28])] fun x35 =>
 AskI X x33 "Add" [x35] fun x36 =>
 Ask (rIad X.P 24 x12 x29) fun x37 =>
 AskO X w23 [b1] (kb29_1 b0 b1 x20 x28) true (Op.store 27 (Operand.tmp 55) (Operand.tmp 54)) 0 [(55, x37), (54, x36)] fun _ w38 =>
 Ask (rBin X.P .add 3 false true x22 (J 1)) fun x39 =>
 Again X w38 [] [] fun w => I1 [x39] w ∧ μ1 [x39] w < μ1 [x22] w23) ∧ (x24 = .bool false →
 Ask (rBin X.P .add 3 false true x14 (J 1)) fun x25 =>
 Again X w23 [] [] fun w => I0 [x25] w ∧ μ0 [x25] w < μ0 [x14] w15)) ∧ (x16 = .bool false →
 Ret X w15 [] [] x12))) := by kernel_rfl
def c7Pr : Contract := fnW (Cods.cons cL7 (Cods.cons cL7 Cods.nil)) (fun p _ => p.1.length ≤ 1000 ∧ p.2.1.length ≤ 1000) (fun p w v w' => w'.ownsRow w.heap.size 27 1 v (sR.product p.1 p.2.1).length ((sR.product p.1 p.2.1).flatMap encS7))
theorem keeps7Pr : Keeps1 Try.prog GA 29 c7Pr := by
  refine keepsW (T := TA7a) (A := ann29) hMix keepTA7a hGA (calls_of (by kernel_rfl)) (callsW_of (by kernel_rfl)) fun args ⟨a, b, _⟩ w0 hrd hpre hg => ?_
  obtain ⟨va, _, rfl, ha, vb, _, rfl, hb, rfl⟩ := hrd
  replace ha : Ls7 w0 va a := ha
  replace hb : Ls7 w0 vb b := hb
  dsimp only at hpre
  obtain ⟨hla, hlb⟩ := hpre
  refine ⟨[.x (.v 0), .x (.v 1)], [], [], 3, env0 [va, vb] w0, fun b => b, 0, rfl, rfl, fun X hX => mem_none hX rfl, fun X hP hS hw hX hR => ?_⟩
  subst hw; try dsimp only at hR
  rw [vc29 X]
  refine a_len hP ty7 ha.1 ?_
  rw [ask_eqlN]
  have fin0 : a.length = 0 ∨ b.length = 0 → Ret X X.w0 [] [] (.slice none 0 0) := fun h => hR _ _ _ _ fun w hw => by
    show w.ownsRow _ _ _ _ (sR.product a b).length _
    rw [Rg.product, if_pos h]
    exact World.ownsRow_nil _ _ _ _
  have pick : Ask (rPick (.bool (decide (a.length = 0))) (.bool true) (.bool (decide (b.length = 0)))) (fun v => v = .bool (decide (a.length = 0) || decide (b.length = 0))) := by
    cases decide (a.length = 0)
    · rw [ask_pickF]; rfl
    · rw [ask_pickT]; rfl
  have main : AskG [(.bool (decide (a.length = 0)), false)] (rLen X.P 24 vb) fun x5 => AskG [(.bool (decide (a.length = 0)), false)] (rBin X.P .eql 3 false true x5 (J 0)) fun x6 => Ask (rPick (.bool (decide (a.length = 0))) (.bool true) x6) fun v => v = .bool (decide (a.length = 0) || decide (b.length = 0)) := by
    by_cases h : a.length = 0
    · rw [decide_eq_true h]
      refine a_G_off (condsV1_not (by decide)) fun _ => a_G_off (condsV1_not (by decide)) fun _ => ?_
      rw [ask_pickT]; rfl
    · rw [decide_eq_false h]
      refine a_G_on condsV1 (a_len hP ty7 hb.1 ?_)
      refine a_G_on condsV1 ?_
      rw [ask_eqlN, ask_pickF]; rfl
  refine ⟨main.1, fun x5 h5 => ?_⟩
  have m5 := main.2 x5 h5
  refine ⟨m5.1, fun x6 h6 => ?_⟩
  have m6 := m5.2 x6 h6
  refine ⟨m6.1, fun x7 h7 => ?_⟩
  have m7 := m6.2 x7 h7
  dsimp only at m7
  rw [m7]
  refine a_if (fun h => fin0 (by simpa using h)) fun h => ?_
  have hne : ¬ (a.length = 0 ∨ b.length = 0) := by simpa using h
  clear fin0 pick main m5 m6 m7 h5 h6 h7 h
  refine a_len hP ty7 ha.1 (a_len hP ty7 hb.1 ?_)
  rw [ask_addN (by omega), ask_subN (by omega) (by omega)]
  obtain ⟨N, hN⟩ : ∃ N, N = a.length + b.length - 1 := ⟨_, rfl⟩
  rw [← hN]
  refine a_make (n := N) hX hP ty7 (by simp [argsFn]) (by simp [argsFn]) (by omega) (by unfold maxLen; omega) fun g u1 w1 h1 k1 s1 su1 o1 => ?_
  rw [made_7, tabN_rep, show tabN (fun _ => sR.zero) N = tabN (sR.prod a b 0) N from rfl] at o1
  have gb : ∀ g', (Value.slice (some ⟨g, 0, none⟩) N N).ownBlock = some g' → u1.heap.size ≤ g' ∧ g' < w1.heap.size := fun g' hg' => o1.lt g' hg'
  refine a_len hP ty7 ha.1 ?_
  refine ⟨fun q w => ∃ i, q = [J i] ∧ i ≤ a.length ∧ Kn X w ∧ w1.heap.size ≤ w.heap.size ∧ w.ownsRow u1.heap.size 27 1 (.slice (some ⟨g, 0, none⟩) N N) N ((tabN (sR.prod a b i) N).flatMap encS7), fun q _ => match q with | i :: _ => a.length - intNat i | _ => 0, fun w hw => ⟨0, rfl, Nat.zero_le _, hw.kn, hw.size, own_stp0 o1 hw.stp⟩, ?_⟩
  rintro _ w ⟨i, he, hi, hk, hz, ho⟩
  simp only [List.cons.injEq, and_true] at he
  subst he
  rw [ask_lssN]
  refine a_ifD (fun hlt => ?_) fun hge => ?_
  · have hs0 := hk.stp0 hX
    refine ld_S7 hP hk (ha.1.stp0 hs0) hlt (fun _ _ => List.not_mem_nil) ?_
    intro b0 hb0
    refine a_S7 (a_sel1 rfl ?_)
    refine a_len hP ty7 hb.1 ?_
    refine ⟨fun q w => ∃ j, q = [J j] ∧ j ≤ b.length ∧ Kn X w ∧ w1.heap.size ≤ w.heap.size ∧ w.ownsRow u1.heap.size 27 1 (.slice (some ⟨g, 0, none⟩) N N) N ((tabN (sR.prow a b i j (sR.prod a b i)) N).flatMap encS7), fun q _ => match q with | i :: _ => b.length - intNat i | _ => 0, fun w' hw => ⟨0, rfl, Nat.zero_le _, hw.kn, Nat.le_trans hz hw.size, own_stp ho hw.stp (own_off0 ho hb0)⟩, ?_⟩
    rintro _ w24 ⟨j, he, hj, hk24, hz24, ho24⟩
    simp only [List.cons.injEq, and_true] at he
    subst he
    rw [ask_lssN]
    refine a_ifD (fun hlj => ?_) fun hgj => ?_
    · refine ld_S7 hP hk24 (hb.1.stp0 (hk24.stp0 hX)) hlj (fun _ _ => List.not_mem_nil) ?_
      intro b1 hb1
      refine a_S7 (a_sel1 rfl ?_)
      rw [ask_addN (by omega), ask_addN (by omega)]
      have hl24 : (tabN (sR.prow a b i j (sR.prod a b i)) N).length = N := tabN_len _ _
      have sl24 := own_slAt ho24
      refine ld_S7 (l := tabN (sR.prow a b i j (sR.prod a b i)) N) hP hk24 (by rw [hl24]; exact sl24) (by rw [hl24]; omega) (own_off0 ho24 hb1) ?_
      rw [tabN_get _ _ (by omega)]
      refine a_mk7 hP (a_mk7 hP ?_)
      refine i_7Mul hP hS (a.getD i sR.zero) (b.getD j sR.zero) ?_
      refine i_7Add hP hS _ _ ?_
      refine a_iadN hP ty7 sl24 (by omega) ?_
      refine a_store (vs := encS7 (sR.add (sR.prow a b i j (sR.prod a b i) (i + j)) (sR.mul (a.getD i sR.zero) (b.getD j sR.zero)))) hX hP sz7 rfl rfl rfl rfl (one_encS7 _) ho24 h1.sz0 (by omega) (by decide) (own_off0 ho24 hb1) (fun w4 hw4 g' hg' hm => by
        have h6 := gb g' hg'
        simp only [kb29_1, List.map_cons, List.map_nil, List.mem_cons, List.not_mem_nil, or_false] at hm
        omega) fun q w4 w5 hw4 hk5 hs5 hsu5 ho5 => ?_
      rw [lset_flat encS7_len _ _ _ (by rw [hl24]; omega), prow_set] at ho5
      rw [ask_succ (by omega)]
      intro w2 hw2
      exact ⟨⟨j + 1, rfl, hlj, hw2.kn, Nat.le_trans hz24 (Nat.le_trans hsu5.size hw2.size), own_stp0 ho5 hw2.stp⟩, by simp [intNat]; omega⟩
    · obtain rfl : j = b.length := by omega
      rw [ask_succ (by omega)]
      intro w2 hw2
      exact ⟨⟨i + 1, rfl, hlt, hw2.kn, Nat.le_trans hz24 hw2.size, own_stp0 ho24 hw2.stp⟩, by simp [intNat]; omega⟩
  · obtain rfl : i = a.length := by omega
    refine hR _ _ _ _ fun w2 hw2 => ?_
    show w2.ownsRow _ _ _ _ (sR.product a b).length _
    rw [Rg.product, if_neg hne, tabN_len, ← hN]
    exact own_mono (own_stp0 ho hw2.stp) h1.sz0
/-! ### without -/
def ann30 : Ann := ⟨[(4, ([7], [1]))], [], 70, [], [], none, [], []⟩
def kb30_0 (b0 : Nat) (x1 : Value) : List KB := [⟨b0, true, 27, #[x1]⟩]
def kb30_1 (b0 b1 : Nat) (x1 : Value) : List KB := [⟨b0, true, 27, #[x1]⟩, ⟨b1, true, 27, #[(J 0)]⟩]
def kb30_2 (b0 b1 : Nat) (x1 x20 : Value) : List KB := [⟨b0, true, 27, #[x1]⟩, ⟨b1, true, 27, #[x20]⟩]
theorem vc30 (X : Ctx) (β : Nat → Nat) (x0 x1 : Value) : (run Try.prog ann30 30 [.x (.v 0), .l [.v 1]] [] [] 3).den X (env0 [x0, x1] X.w0) 3 β 0 (fun _ _ _ => False) = (
 AskNew X.w0 fun b0 =>
 Ask (rLen X.P 24 x0) fun x3 =>
 Ask (rBin X.P .sub 3 false true x3 (J 1)) fun x4 =>
 AskO X X.w0 [] (kb30_0 b0 x1) false (Op.makeSlice 24 (Operand.tmp 10) (Operand.tmp 10)) 24 [(10, x4), (10, x4)] fun x5 w5 =>
 AskNew w5 fun b1 =>
 Ask (rLen X.P 24 x5) fun x6 =>
 Ask (rBin X.P .sub 3 false true x6 (J 1)) fun x7 =>
 ∃ (I0 : List Value → World → Prop) (μ0 : List Value → World → Nat), (∀ w, KnownV X w5 [] (kb30_1 b0 b1 x1) w → I0 [x7, (J 0)] w) ∧ ∀ x8 x9 w10, I0 [x8, x9] w10 →
 Ask (rBin X.P .geq 3 false true x8 (J 0)) fun x11 =>
 (∃ t, x11 = .bool t) ∧ (x11 = .bool true →
 Ask (rBin X.P .add 3 false true x8 (J 1)) fun x12 =>
 Ask (rIad X.P 24 x0 x12) fun x13 =>
 Ask (rLoad X w10 [] 27 x13) fun x14 =>
 Ask (rGen X.P (Op.makeInterface 27 (Operand.tmp 23)) 20 [(23, x14)]) fun x15 =>
 Ask (rGen X.P (Op.makeInterface 27 (Operand.tmp 25)) 20 [(25, (.agg #[x9]))]) fun x16 =>
 AskI X x16 "Mul" [(.agg #[x1])] fun x17 =>
 AskI X x15 "Add" [x17] fun x18 =>
 Ask (rAgg 1 x18) fun x19 =>
 Ask (rSel (aggArr x19) 0 1 false) fun x20 =>
 Ask (rIad X.P 24 x5 x8) fun x21 =>
 AskO X w10 [b1] (kb30_2 b0 b1 x1 x20) true (Op.store 27 (Operand.tmp 33) (Operand.tmp 32)) 0 [(33, x21), (32, (.agg #[x20]))] fun _ w22 =>
 Ask (rBin X.P .sub 3 false true x8 (J 1)) fun x23 =>
 Again X w22 [] [] fun w => I0 [x23, x20] w ∧ μ0 [x23, x20] w < μ0 [x8, x9] w10) ∧ (x11 = .bool false →
 Ret X w10 [] [] x5)) := by kernel_rfl
def c7Wo : Contract := fnW (Cods.cons cL7 (Cods.cons cS7 Cods.nil)) (fun p _ => 1 ≤ p.1.length ∧ p.1.length ≤ 1000) (fun p w v w' => w'.ownsRow w.heap.size 27 1 v (without p.1 p.2.1).length ((without p.1 p.2.1).flatMap encS7))
def woAt (c : List Int) (x : Int) (n k i : Nat) : Int := if n - k ≤ i then wo c x (n - i) else 0
theorem woAt_set (c : List Int) (x : Int) {n k : Nat} (hk : k < n) : (tabN (woAt c x n k) n).set (n - 1 - k) (wo c x (k + 1)) = tabN (woAt c x n (k + 1)) n := by
  rw [tabN_set]
  refine tabN_congr fun j hj => ?_
  unfold woAt
  by_cases e : j = n - 1 - k
  · rw [if_pos e, if_pos (by omega), show n - j = k + 1 by omega]
  · rw [if_neg e]
    by_cases q : n - k ≤ j
    · rw [if_pos q, if_pos (by omega)]
    · rw [if_neg q, if_neg (by omega)]
theorem keeps7Wo : Keeps1 Try.prog GA 30 c7Wo := by
  refine keepsW (T := TA7a) (A := ann30) hMix keepTA7a hGA (calls_of (by kernel_rfl)) (callsW_of (by kernel_rfl)) fun args ⟨c, x, _⟩ w0 hrd hpre _ => ?_
  obtain ⟨v, _, rfl, hl, _, _, rfl, rfl, rfl⟩ := hrd
  replace hl : Ls7 w0 v c := hl
  dsimp only at hpre
  obtain ⟨hc1, hc2⟩ := hpre
  refine ⟨[.x (.v 0), .l [.v 1]], [], [], 3, env0 [v, .int .i64 x] w0, fun b => b, 0, rfl, rfl, fun X hX => mem_none hX rfl, fun X hP hS hw hX hR => ?_⟩
  subst hw; try dsimp only at hR
  rw [vc30 X]
  intro b0 hb0
  refine a_len hP ty7 hl.1 ?_
  obtain ⟨n, hn⟩ : ∃ n, c.length = n + 1 := ⟨c.length - 1, by omega⟩
  rw [hn, ask_subN (by omega) (by omega), Nat.add_sub_cancel]
  refine a_make (n := n) hX hP ty7 (by simp [argsFn]) (by simp [argsFn]) (by omega) (by unfold maxLen; omega) fun g u1 w1 h1 k1 s1 su1 o1 => ?_
  have l0 : b0 < u1.heap.size := h1.low (by simp [kb30_0])
  rw [made_7, tabN_rep, show tabN (fun _ => sR.zero) n = tabN (woAt c x n 0) n from tabN_congr fun i hi => by unfold woAt; rw [if_neg (by omega)]; rfl] at o1
  have gb : ∀ g', (Value.slice (some ⟨g, 0, none⟩) n n).ownBlock = some g' → u1.heap.size ≤ g' ∧ g' < w1.heap.size := fun g' hg' => o1.lt g' hg'
  intro b1 hb1
  refine a_len hP ty7 (own_slAt o1) ?_
  rw [ask_subI (by omega)]
  refine ⟨fun q w => ∃ k : Nat, q = [.int .i64 ((n : Int) - 1 - k), .int .i64 (wo c x k)] ∧ k ≤ n ∧ Kn X w ∧ w.ownsRow u1.heap.size 27 1 (.slice (some ⟨g, 0, none⟩) n n) n ((tabN (woAt c x n k) n).flatMap encS7), fun q _ => match q with | .int _ i :: _ => (i + 1).toNat | _ => 0, fun w hw => ⟨0, by simp [wo], Nat.zero_le _, hw.kn, own_stp0 o1 hw.stp⟩, ?_⟩
  rintro _ _ w ⟨k, he, hk, hkn, ho⟩
  simp only [List.cons.injEq, and_true] at he
  obtain ⟨rfl, rfl⟩ := he
  rw [ask_geq]
  refine a_ifD (fun hlt => ?_) fun hge => ?_
  · have ej : Value.int .i64 ((n : Int) - 1 - k) = J (n - 1 - k) := by congr 1; omega
    rw [ej, ask_succ (by omega)]
    refine ld_S7 hP hkn (hl.1.stp0 (hkn.stp0 hX)) (by omega) (fun _ _ => List.not_mem_nil) ?_
    refine a_mk7 hP (a_mk7 hP ?_)
    refine i_7Mul hP hS (wo c x k) x ?_
    refine i_7Add hP hS _ _ ?_
    refine a_S7 (a_sel1 rfl ?_)
    have ew : sR.add (c.getD (n - 1 - k + 1) 0) (sR.mul (wo c x k) x) = wo c x (k + 1) := by
      rw [wo, hn, show n - 1 - k + 1 = n + 1 - 1 - k by omega]
    rw [ew]
    refine a_iadN hP ty7 (own_slAt ho) (by omega) ?_
    refine a_store (vs := encS7 (wo c x (k + 1))) hX hP sz7 rfl rfl rfl rfl (one_encS7 _) ho h1.sz0 (by omega) (by decide) (fun g' hg' hm => by
      have h6 := gb g' hg'
      simp at hm; omega) (fun w4 hw4 g' hg' hm => by
      have h6 := gb g' hg'
      simp only [kb30_2, List.map_cons, List.map_nil, List.mem_cons, List.not_mem_nil, or_false] at hm
      omega) fun q w4 w5 hw4 hk5 hs5 hsu5 ho5 => ?_
    rw [lset_flat encS7_len _ _ _ (by rw [tabN_len]; omega), woAt_set c x (by omega)] at ho5
    rw [← ej, ask_subI (by omega)]
    intro w2 hw2
    refine ⟨⟨k + 1, ?_, by omega, hw2.kn, own_stp0 ho5 hw2.stp⟩, by simp; omega⟩
    simp only [List.cons.injEq, Value.int.injEq, true_and, and_true]
    omega
  · obtain rfl : k = n := by omega
    refine hR _ _ _ _ fun w2 hw2 => ?_
    show w2.ownsRow _ _ _ _ (without c x).length _
    have e : without c x = tabN (woAt c x k k) k := by
      rw [without, hn, Nat.add_sub_cancel]
      exact tabN_congr fun i hi => by unfold woAt; rw [if_pos (by omega)]
    rw [e, tabN_len]
    exact own_mono (own_stp0 ho hw2.stp) h1.sz0
/-! ### InvertAll -/
def ann31 : Ann := ⟨[(6, ([23], [0])), (14, ([8], [1]))], [], 70, [], [], none, [], []⟩
def kb31_0 (b0 : Nat) (x11 : Value) : List KB := [⟨b0, true, 27, #[x11]⟩]
def kb31_1 (b0 b1 : Nat) (x14 x20 : Value) : List KB := [⟨b0, true, 27, #[x14]⟩, ⟨b1, true, 27, #[x20]⟩]
def kb31_2 (b0 b1 b2 : Nat) (x14 x24 : Value) : List KB := [⟨b0, true, 27, #[x14]⟩, ⟨b1, true, 27, #[x24]⟩, ⟨b2, true, 27, #[(J 0)]⟩]
def kb31_3 (b0 b1 : Nat) (x14 x24 : Value) : List KB := [⟨b0, true, 27, #[x14]⟩, ⟨b1, true, 27, #[x24]⟩]
theorem vc31 (X : Ctx) (β : Nat → Nat) (x0 : Value) : (run Try.prog ann31 31 [.x (.v 0)] [] [] 2).den X (env0 [x0] X.w0) 2 β 0 (fun _ _ _ => False) = (
 Ask (rLen X.P 24 x0) fun x2 =>
 Ask (rBin X.P .eql 3 false true x2 (J 0)) fun x3 =>
 (∃ t, x3 = .bool t) ∧ (x3 = .bool true →
 Ret X X.w0 [] [] (.slice none 0 0)) ∧ (x3 = .bool false →
 Ask (rLen X.P 24 x0) fun x4 =>
 AskO X X.w0 [] [] false (Op.makeSlice 24 (Operand.tmp 14) (Operand.tmp 14)) 24 [(14, x4), (14, x4)] fun x5 w5 =>
 Ask (rIad X.P 24 x0 (J 0)) fun x6 =>
 Ask (rLoad X w5 [] 27 x6) fun x7 =>
 Ask (rGen X.P (Op.makeInterface 27 (Operand.tmp 18)) 20 [(18, x7)]) fun x8 =>
 AskI X x8 "One" [] fun x9 =>
 AskNew w5 fun b0 =>
 Ask (rAgg 1 x9) fun x10 =>
 Ask (rSel (aggArr x10) 0 1 false) fun x11 =>
 Ask (rLen X.P 24 x0) fun x12 =>
 ∃ (I0 : List Value → World → Prop) (μ0 : List Value → World → Nat), (∀ w, KnownV X w5 [b0] (kb31_0 b0 x11) w → I0 [(J 0), x11] w) ∧ ∀ x13 x14 w15, I0 [x13, x14] w15 →
 Ask (rBin X.P .lss 3 false false x13 x12) fun x16 =>
 (∃ t, x16 = .bool t) ∧ (x16 = .bool true →
 Ask (rIad X.P 24 x0 x13) fun x17 =>
 Ask (rLoad X w15 [] 27 x17) fun x18 =>
 AskNew w15 fun b1 =>
 Ask (rAgg 1 x18) fun x19 =>
 Ask (rSel (aggArr x19) 0 1 false) fun x20 =>
 Ask (rIad X.P 24 x5 x13) fun x21 =>
 AskO X w15 [b1] (kb31_1 b0 b1 x14 x20) true (Op.store 27 (Operand.tmp 31) (Operand.tmp 30)) 0 [(31, x21), (30, (.agg #[x14]))] fun _ w22 =>
 Ask (rGen X.P (Op.makeInterface 27 (Operand.tmp 32)) 20 [(32, (.agg #[x20]))]) fun x23 =>
 AskI X x23 "IsZero" [] fun x24 =>
 Ask (rUn X.P .not x24) fun x25 =>
 (∃ t, x25 = .bool t) ∧ (x25 = .bool true →
 Ask (rGen X.P (Op.makeInterface 27 (Operand.tmp 36)) 20 [(36, (.agg #[x14]))]) fun x26 =>
 AskI X x26 "Mul" [(.agg #[x20])] fun x27 =>
 Ask (rAgg 1 x27) fun x28 =>
 Ask (rSel (aggArr x28) 0 1 false) fun x29 =>
 Ask (rBin X.P .add 3 false true x13 (J 1)) fun x30 =>
 Again X w22 [b0] [] fun w => I0 [x30, x29] w ∧ μ0 [x30, x29] w < μ0 [x13, x14] w15) ∧ (x25 = .bool false →
 Ask (rBin X.P .add 3 false true x13 (J 1)) fun x26 =>
 Again X w22 [] [] fun w => I0 [x26, x14] w ∧ μ0 [x26, x14] w < μ0 [x13, x14] w15)) ∧ (x16 = .bool false →
 Ask (rGen X.P (Op.makeInterface 27 (Operand.tmp 41)) 20 [(41, (.agg #[x14]))]) fun x17 =>
 AskI X x17 "Invert" [] fun x18 =>
 AskNew w15 fun b1 =>
 Ask (rAgg 1 x18) fun x19 =>
 Ask (rSel (aggArr x19) 0 1 false) fun x20 =>
 Ask (rLen X.P 24 x0) fun x21 =>
 Ask (rBin X.P .sub 3 false true x21 (J 1)) fun x22 =>
 ∃ (I0 : List Value → World → Prop) (μ0 : List Value → World → Nat), (∀ w, KnownV X w15 [b1] (kb31_1 b0 b1 x14 x20) w → I0 [x22, x20] w) ∧ ∀ x23 x24 w25, I0 [x23, x24] w25 →
 Ask (rBin X.P .geq 3 false true x23 (J 0)) fun x26 =>
 (∃ t, x26 = .bool t) ∧ (x26 = .bool true →
 Ask (rIad X.P 24 x0 x23) fun x27 =>
 Ask (rLoad X w25 [] 27 x27) fun x28 =>
 Ask (rGen X.P (Op.makeInterface 27 (Operand.tmp 54)) 20 [(54, x28)]) fun x29 =>
 AskI X x29 "IsZero" [] fun x30 =>
 (∃ t, x30 = .bool t) ∧ (x30 = .bool true →
 AskNew w25 fun b2 =>
 Ask (rIad X.P 24 x5 x23) fun x31 =>
 AskO X w25 [] (kb31_2 b0 b1 b2 x14 x24) true (Op.store 27 (Operand.tmp 60) (Operand.tmp 59)) 0 [(60, x31), (59, (.agg #[(J 0)]))] fun _ w32 =>
 Ask (rBin X.P .sub 3 false true x23 (J 1)) fun x33 =>
 Again X w32 [] [] fun w => I0 [x33, x24] w ∧ μ0 [x33, x24] w < μ0 [x23, x24] w25) ∧ (x30 = .bool false →
 Ask (rIad X.P 24 x5 x23) fun x31 =>
 Ask (rLoad X w25 [] 27 x31) fun x32 =>
 Ask (rGen X.P (Op.makeInterface 27 (Operand.tmp 66)) 20 [(66, x32)]) fun x33 =>
 AskI X x33 "Mul" [(.agg #[x24])] fun x34 =>
 Ask (rIad X.P 24 x5 x23) fun x35 =>
 AskO X w25 [] (kb31_3 b0 b1 x14 x24) true (Op.store 27 (Operand.tmp 70) (Operand.tmp 69)) 0 [(70, x35), (69, x34)] fun _ w36 =>
 Ask (rGen X.P (Op.makeInterface 27 (Operand.tmp 71)) 20 [(71, (.agg #[x24]))]) fun x37 =>
 Ask (rIad X.P 24 x0 x23) fun x38 =>
 Ask (rLoad X w36 [] 27 x38) fun x39 =>
 AskI X x37 "Mul" [x39] fun x40 =>
 Ask (rAgg 1 x40) fun x41 =>
 Ask (rSel (aggArr x41) 0 1 false) fun x42 =>
 Ask (rBin X.P .sub 3 false true x23 (J 1)) fun x43 =>
 Again X w36 [b1] [] fun w => I0 [x43, x42] w ∧ μ0 [x43, x42] w < μ0 [x23, x24] w25)) ∧ (x26 = .bool false →
 Ret X w25 [] [] x5)))) := by kernel_rfl
def c7Ia : Contract := fnW (Cods.cons cL7 Cods.nil) (fun p _ => p.1.length ≤ 1000) (fun p w v w' => w'.ownsRow w.heap.size 27 1 v p.1.length ((invAll p.1).flatMap encS7))
def iaA (xs : List Int) (i j : Nat) : Int := if j < i then pre xs j else 0
def iaB (xs : List Int) (n k j : Nat) : Int := if n - k ≤ j then inv1 xs n j else pre xs j
theorem iaA_set (xs : List Int) (i n : Nat) : (tabN (iaA xs i) n).set i (pre xs i) = tabN (iaA xs (i + 1)) n := by
  rw [tabN_set]
  refine tabN_congr fun j hj => ?_
  unfold iaA
  by_cases e : j = i
  · subst e; rw [if_pos rfl, if_pos (by omega)]
  · rw [if_neg e]
    by_cases q : j < i
    · rw [if_pos q, if_pos (by omega)]
    · rw [if_neg q, if_neg (by omega)]
theorem iaB_set (xs : List Int) {n k : Nat} (hk : k < n) : (tabN (iaB xs n k) n).set (n - 1 - k) (inv1 xs n (n - 1 - k)) = tabN (iaB xs n (k + 1)) n := by
  rw [tabN_set]
  refine tabN_congr fun j hj => ?_
  unfold iaB
  by_cases e : j = n - 1 - k
  · subst e; rw [if_pos rfl, if_pos (by omega)]
  · rw [if_neg e]
    by_cases q : n - k ≤ j
    · rw [if_pos q, if_pos (by omega)]
    · rw [if_neg q, if_neg (by omega)]
theorem keeps7Ia : Keeps1 Try.prog GA 31 c7Ia := by
  refine keepsW (T := TA7a) (A := ann31) hMix keepTA7a hGA (calls_of (by kernel_rfl)) (callsW_of (by kernel_rfl)) fun args ⟨xs, _⟩ w0 hrd hpre hg => ?_
  obtain ⟨v, _, rfl, hl, rfl⟩ := hrd
  replace hl : Ls7 w0 v xs := hl
  dsimp only at hpre
  refine ⟨[.x (.v 0)], [], [], 2, env0 [v] w0, fun b => b, 0, rfl, rfl, fun X hX => mem_none hX rfl, fun X hP hS hw hX hR => ?_⟩
  subst hw; try dsimp only at hR
  rw [vc31 X]
  refine a_len hP ty7 hl.1 ?_
  rw [ask_eqlN]
  refine a_ifD (fun h => ?_) fun hne => ?_
  · refine hR _ _ _ _ fun w hw => ?_
    show w.ownsRow _ _ _ _ xs.length ((tabN (inv1 xs xs.length) xs.length).flatMap encS7)
    rw [h]
    exact World.ownsRow_nil _ _ _ _
  obtain ⟨n, hn⟩ : ∃ n, n = xs.length := ⟨_, rfl⟩
  refine a_len hP ty7 hl.1 ?_
  rw [← hn] at hne hpre ⊢
  refine a_make (n := n) hX hP ty7 (by simp [argsFn]) (by simp [argsFn]) (by omega) (by unfold maxLen; omega) fun g u1 w1 h1 k1 s1 su1 o1 => ?_
  rw [made_7, tabN_rep, show tabN (fun _ => sR.zero) n = tabN (iaA xs 0) n from tabN_congr fun i hi => by unfold iaA; rw [if_neg (by omega)]; rfl] at o1
  have gb : ∀ g', (Value.slice (some ⟨g, 0, none⟩) n n).ownBlock = some g' → u1.heap.size ≤ g' ∧ g' < w1.heap.size := fun g' hg' => o1.lt g' hg'
  refine ld_S7 (i := 0) hP k1 (hl.1.stp0 su1) (by omega) (fun _ _ => List.not_mem_nil) ?_
  refine a_mk7 hP ?_
  refine i_7One hP hS _ ?_
  intro b0 hb0
  refine a_S7 (a_sel1 rfl ?_)
  refine a_len hP ty7 hl.1 ?_
  rw [← hn]
  refine ⟨fun q w => ∃ i, q = [J i, .int .i64 (pre xs i)] ∧ i ≤ n ∧ Kn X w ∧ w1.heap.size ≤ w.heap.size ∧ w.ownsRow u1.heap.size 27 1 (.slice (some ⟨g, 0, none⟩) n n) n ((tabN (iaA xs i) n).flatMap encS7), fun q _ => match q with | i :: _ => n - intNat i | _ => 0, fun w hw => ⟨0, rfl, Nat.zero_le _, hw.kn, hw.size, own_stp o1 hw.stp (own_off0 o1 hb0)⟩, ?_⟩
  rintro _ _ w15 ⟨i, he, hi, hk, hz, ho⟩
  simp only [List.cons.injEq, and_true] at he
  obtain ⟨rfl, rfl⟩ := he
  rw [ask_lssN]
  refine a_ifD (fun hlt => ?_) fun hge => ?_
  · refine ld_S7 hP hk (hl.1.stp0 (hk.stp0 hX)) (by omega) (fun _ _ => List.not_mem_nil) ?_
    intro b1 hb1
    refine a_S7 (a_sel1 rfl ?_)
    refine a_iadN hP ty7 (own_slAt ho) hlt ?_
    refine a_store (vs := encS7 (pre xs i)) hX hP sz7 rfl rfl rfl rfl (one_encS7 _) ho h1.sz0 (by omega) (by decide) (own_off0 ho hb1) (fun w4 hw4 g' hg' hm => by
      have h6 := gb g' hg'
      simp only [kb31_1, List.map_cons, List.map_nil, List.mem_cons, List.not_mem_nil, or_false] at hm
      omega) fun q w4 w5 hw4 hk5 hs5 hsu5 ho5 => ?_
    rw [lset_flat encS7_len _ _ _ (by rw [tabN_len]; exact hlt), iaA_set] at ho5
    have z5 := hsu5.size
    refine a_mk7 hP ?_
    refine i_7IsZ hP hS (xs.getD i 0) ?_
    rw [ask_not]
    refine a_if (fun h => ?_) fun h => ?_
    · have hz' : ¬ isz (xs.getD i 0) = true := by
        rw [isz, decide_eq_true_eq]; simpa using h
      refine a_mk7 hP ?_
      refine i_7Mul hP hS (pre xs i) (xs.getD i 0) ?_
      refine a_S7 (a_sel1 rfl ?_)
      rw [ask_succ (by omega)]
      intro w2 hw2
      refine ⟨⟨i + 1, by rw [pre, if_neg hz'], hlt, hw2.kn, by have := hw2.size; omega, own_stp ho5 hw2.stp fun g' hg' hm => ?_⟩, by simp [intNat]; omega⟩
      have := gb g' hg'
      simp at hm; omega
    · have hz' : isz (xs.getD i 0) = true := by
        rw [isz, decide_eq_true_eq]; simpa using h
      rw [ask_succ (by omega)]
      intro w2 hw2
      exact ⟨⟨i + 1, by rw [pre, if_pos hz'], hlt, hw2.kn, by have := hw2.size; omega, own_stp0 ho5 hw2.stp⟩, by simp [intNat]; omega⟩
  · obtain rfl : i = n := by omega
    rw [show tabN (iaA xs i) i = tabN (iaB xs i 0) i from tabN_congr fun j hj => by unfold iaA iaB; rw [if_pos hj, if_neg (by omega)]] at ho
    refine a_mk7 hP ?_
    refine i_7Inv hP hS (pre xs i) ?_
    intro b1 hb1
    refine a_S7 (a_sel1 rfl ?_)
    refine a_len hP ty7 hl.1 ?_
    rw [← hn, ask_subI (by omega)]
    refine ⟨fun q w => ∃ k : Nat, q = [.int .i64 ((i : Int) - 1 - k), .int .i64 (lf xs i k)] ∧ k ≤ i ∧ Kn X w ∧ w15.heap.size ≤ w.heap.size ∧ w.ownsRow u1.heap.size 27 1 (.slice (some ⟨g, 0, none⟩) i i) i ((tabN (iaB xs i k) i).flatMap encS7), fun q _ => match q with | .int _ i :: _ => (i + 1).toNat | _ => 0, fun w hw => ⟨0, by simp [lf], Nat.zero_le _, hw.kn, hw.size, own_stp ho hw.stp (own_off0 ho hb1)⟩, ?_⟩
    rintro _ _ w25 ⟨k, he, hk25, hkn, hz25, ho25⟩
    simp only [List.cons.injEq, and_true] at he
    obtain ⟨rfl, rfl⟩ := he
    rw [ask_geq]
    refine a_ifD (fun hlt => ?_) fun hge' => ?_
    · have ej : Value.int .i64 ((i : Int) - 1 - k) = J (i - 1 - k) := by congr 1; omega
      rw [ej]
      have hlv := hl.1.stp0 (hkn.stp0 hX)
      refine ld_S7 hP hkn hlv (by omega) (fun _ _ => List.not_mem_nil) ?_
      refine a_mk7 hP ?_
      refine i_7IsZ hP hS (xs.getD (i - 1 - k) 0) ?_
      have nkb : ∀ {w4 : World} {b2 : Nat} {x y : Value}, w25.heap.size ≤ b2 → ∀ g', (Value.slice (some ⟨g, 0, none⟩) i i).ownBlock = some g' → g' ∉ (kb31_2 b0 b1 b2 x y).map (·.b) := fun h g' hg' hm => by
        have h6 := gb g' hg'
        simp only [kb31_2, List.map_cons, List.map_nil, List.mem_cons, List.not_mem_nil, or_false] at hm
        omega
      refine a_ifD (fun h => ?_) fun h => ?_
      · have hz' : isz (xs.getD (i - 1 - k) 0) = true := by rw [isz, decide_eq_true_eq]; exact h
        intro b2 hb2
        refine a_iadN hP ty7 (own_slAt ho25) (by omega) ?_
        refine a_store (vs := encS7 (inv1 xs i (i - 1 - k))) hX hP sz7 rfl rfl (by
          show Value.cells (.agg #[J 0]) = _
          rw [inv1, if_pos hz']; rfl) rfl (one_encS7 _) ho25 h1.sz0 (by omega) (by decide) (fun _ _ => List.not_mem_nil) (fun w4 hw4 => nkb (w4 := w4) hb2) fun q w4 w5 hw4 hk5 hs5 hsu5 ho5 => ?_
        rw [lset_flat encS7_len _ _ _ (by rw [tabN_len]; omega), iaB_set xs (by omega)] at ho5
        rw [← ej, ask_subI (by omega)]
        intro w2 hw2
        refine ⟨⟨k + 1, ?_, by omega, hw2.kn, by have := hw2.size; have := hsu5.size; omega, own_stp0 ho5 hw2.stp⟩, by simp; omega⟩
        simp only [List.cons.injEq, Value.int.injEq, true_and, and_true]
        exact ⟨by omega, by rw [lf, if_pos hz']⟩
      · have hz' : ¬ isz (xs.getD (i - 1 - k) 0) = true := by rw [isz, decide_eq_true_eq]; exact h
        have hB : (tabN (iaB xs i k) i).length = i := tabN_len _ _
        refine ld_S7 (l := tabN (iaB xs i k) i) hP hkn (by rw [hB]; exact own_slAt ho25) (by rw [hB]; omega) (fun _ _ => List.not_mem_nil) ?_
        rw [tabN_get _ _ (by omega), iaB, if_neg (by omega)]
        refine a_mk7 hP ?_
        refine i_7Mul hP hS _ (lf xs i k) ?_
        refine a_iadN hP ty7 (own_slAt ho25) (by omega) ?_
        have ev : sR.mul (pre xs (i - 1 - k)) (lf xs i k) = inv1 xs i (i - 1 - k) := by
          rw [inv1, if_neg hz', show i - 1 - (i - 1 - k) = k by omega]
        rw [ev]
        refine a_store (vs := encS7 (inv1 xs i (i - 1 - k))) hX hP sz7 rfl rfl rfl rfl (one_encS7 _) ho25 h1.sz0 (by omega) (by decide) (fun _ _ => List.not_mem_nil) (fun w4 hw4 g' hg' hm => by
          have h6 := gb g' hg'
          simp only [kb31_3, List.map_cons, List.map_nil, List.mem_cons, List.not_mem_nil, or_false] at hm
          omega) fun q w4 w5 hw4 hk5 hs5 hsu5 ho5 => ?_
        rw [lset_flat encS7_len _ _ _ (by rw [tabN_len]; omega), iaB_set xs (by omega)] at ho5
        have z5 := hsu5.size
        refine a_mk7 hP ?_
        refine ld_S7 hP hk5 (hl.1.stp0 (hk5.stp0 hX)) (by omega) (fun _ _ => List.not_mem_nil) ?_
        refine i_7Mul hP hS (lf xs i k) _ ?_
        refine a_S7 (a_sel1 rfl ?_)
        rw [← ej, ask_subI (by omega)]
        intro w2 hw2
        refine ⟨⟨k + 1, ?_, by omega, hw2.kn, by have := hw2.size; omega, own_stp ho5 hw2.stp fun g' hg' hm => ?_⟩, by simp; omega⟩
        · simp only [List.cons.injEq, Value.int.injEq, true_and, and_true]
          exact ⟨by omega, by rw [lf, if_neg hz']⟩
        · have := gb g' hg'
          simp at hm; omega
    · obtain rfl : k = i := by omega
      refine hR _ _ _ _ fun w2 hw2 => ?_
      show w2.ownsRow _ _ _ _ xs.length (((tabN (inv1 xs xs.length) xs.length)).flatMap encS7)
      rw [← hn, show tabN (inv1 xs k) k = tabN (iaB xs k k) k from tabN_congr fun j hj => by unfold iaB; rw [if_pos (by omega)]]
      exact own_mono (own_stp0 ho25 hw2.stp) h1.sz0
#print axioms keeps7Ia
end Go.Vc
