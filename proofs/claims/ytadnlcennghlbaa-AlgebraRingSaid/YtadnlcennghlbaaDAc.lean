/-
  Polynomials, products, powers, inner products over Pair.
-/
import Derived.Test.YtadnlcennghlbaaDAb
namespace Go.Vc
open Go Go.Proofs Go.RowKit
def cLP : Cod (List Z2) := cL encPr (fun _ => True) 2 encPr_len (fun _ _ _ _ h => encPr_inj h)
def LsP (w : World) (v : Value) (l : List Z2) : Prop := Ls encPr (fun _ => True) w v l
/-- One Pair. -/
def cPr : Cod Z2 := ⟨fun _ v p => v = P2 p, fun _ _ _ _ h k => P2_inj (h.symm.trans k)⟩
def cIv : Cod Int := ⟨fun _ v a => v = .int .i64 a, fun _ _ a b h k => by rw [h] at k; simpa using k⟩
section
variable {X : Ctx} {u : World} {v : Value} {l : List Z2} {i : Nat} {ow : List Nat} {K : Value → Prop}
/-- Element i of a list of Pairs. -/
theorem ld_Pr (hP : X.P = Try.prog) (hk : Kn X u) (h : SlAt u v l.length (l.flatMap encPr)) (hi : i < l.length) (how : ∀ b, v.ownBlock = some b → b ∉ ow)
    (hK : K (P2 (l.getD i pR.zero))) : Ask (rIad X.P 37 v (J i)) fun p => Ask (rLoad X u ow 40 p) K := by
  refine a_iadN hP tyPr h hi ?_
  refine a_load_agg (cs := encPr l[i]) hk h (by rw [hP]; exact aggPr) (by rw [hP]; exact szPr) how (by simp [encPr]) (flat_at encPr_len l i _ (List.getElem?_eq_getElem hi)) ?_
  rw [getD_lt _ hi] at hK
  exact hK
theorem a_P2 {p : Z2} (hK : K (P2 p)) : Ask (rAgg 2 (P2 p)) K := a_agg (cs := encPr p) rfl (one_encPr p) hK
end
def TAp : Table := ((TA0.add 21 cPAdd).add 16 cPMul).add 54 cPOne
theorem keepTAp : AllKeep Try.prog GA TAp := ((keepTA0.add keepsPAdd).add keepsPMul).add keepsPOne
section
variable {X : Ctx} {K : Value → Prop}
theorem i_PMul (hP : X.P = Try.prog) (hS : X.S = TAp.spec) (a b : Z2) (hK : K (P2 (pR.mul a b))) : AskI X (.iface 40 (P2 a)) "Mul" [P2 b] K := call_I hP hS (T := TAp) (f := 16) rfl (a, b) (methPMul a b) trivial hK
theorem i_PAdd (hP : X.P = Try.prog) (hS : X.S = TAp.spec) (a b : Z2) (hK : K (P2 (pR.add a b))) : AskI X (.iface 40 (P2 a)) "Add" [P2 b] K := call_I hP hS (T := TAp) (f := 21) rfl (a, b) (methPAdd a b) trivial hK
theorem a_mkP {P : Program} {a ty : Nat} {x : Value} (hP : P = Try.prog) (hK : K (.iface 40 x)) : Ask (rGen P (.makeInterface 40 (.tmp a)) ty [(a, x)]) K := by
  subst hP; rw [ask_mkI (makeIP _)]; exact hK
end
/-! ### Eval -/
def ann13 : Ann := ⟨[(3, ([6], [2]))], [], 70, [], [], none, [], []⟩
def kb13_0 (b0 b1 b2 : Nat) (x1 x2 : Value) : List KB := [⟨b0, true, 40, #[x1, x2]⟩, ⟨b1, true, 40, #[(J 0), (J 0)]⟩, ⟨b2, true, 40, #[(J 0), (J 0)]⟩]
theorem vc13 (X : Ctx) (β : Nat → Nat) (x0 x1 x2 : Value) : (run Try.prog ann13 13 [.x (.v 0), .l [.v 1, .v 2]] [] [] 4).den X (env0 [x0, x1, x2] X.w0) 4 β 0 (fun _ _ _ => False) = (
 AskNew X.w0 fun b0 =>
 AskNew X.w0 fun b1 =>
 AskNew X.w0 fun b2 =>
 Ask (rLen X.P 37 x0) fun x4 =>
 Ask (rBin X.P .sub 3 false true x4 (J 1)) fun x5 =>
 ∃ (I0 : List Value → World → Prop) (μ0 : List Value → World → Nat), (∀ w, KnownV X X.w0 [] (kb13_0 b0 b1 b2 x1 x2) w → I0 [x5, (J 0), (J 0)] w) ∧ ∀ x6 x7 x8 w9, I0 [x6, x7, x8] w9 →
 Ask (rBin X.P .geq 3 false true x6 (J 0)) fun x10 =>
 (∃ t, x10 = .bool t) ∧ (x10 = .bool true →
 Ask (rGen X.P (Op.makeInterface 40 (Operand.tmp 14)) 20 [(14, (.agg #[x7, x8]))]) fun x11 =>
 AskI X x11 "Mul" [(.agg #[x1, x2])] fun x12 =>
 Ask (rGen X.P (Op.makeInterface 40 (Operand.tmp 17)) 20 [(17, x12)]) fun x13 =>
 Ask (rIad X.P 37 x0 x6) fun x14 =>
 Ask (rLoad X w9 [] 40 x14) fun x15 =>
 AskI X x13 "Add" [x15] fun x16 =>
 Ask (rAgg 2 x16) fun x17 =>
 Ask (rSel (aggArr x17) 0 1 false) fun x18 =>
 Ask (rSel (aggArr x17) 1 1 false) fun x19 =>
 Ask (rBin X.P .sub 3 false true x6 (J 1)) fun x20 =>
 Again X w9 [b2] [] fun w => I0 [x20, x18, x19] w ∧ μ0 [x20, x18, x19] w < μ0 [x6, x7, x8] w9) ∧ (x10 = .bool false →
 Ask (rPlain x7) fun x11 =>
 Ask (rPlain x8) fun x12 =>
 Ret X w9 [b1] [] (.agg #[x11, x12]))) := by kernel_rfl
def cPEv : Contract := fnW (Cods.cons cLP (Cods.cons cPr Cods.nil)) (fun p _ => p.1.length ≤ 1000) (fun p _ v _ => v = P2 (pR.eval p.1 p.2.1))
theorem keepsPEv : Keeps1 Try.prog GA 13 cPEv := by
  refine keepsW (T := TAp) (A := ann13) hMix keepTAp hGA (calls_of (by kernel_rfl)) (callsW_of (by kernel_rfl)) fun args ⟨c, x, _⟩ w0 hrd hpre _ => ?_
  obtain ⟨v, _, rfl, hl, _, _, rfl, rfl, rfl⟩ := hrd
  replace hl : LsP w0 v c := hl
  dsimp only at hpre
  refine ⟨[.x (.v 0), .l [.v 1, .v 2]], [], [], 4, env0 [v, .int .i64 x.1, .int .i64 x.2] w0, fun b => b, 0, rfl, rfl, fun X hX => mem_none hX rfl, fun X hP hS hw hX hR => ?_⟩
  subst hw; try dsimp only at hR
  rw [vc13 X]
  intro b0 hb0 b1 hb1 b2 hb2
  refine a_len hP tyPr hl.1 ?_
  rw [ask_subI (by omega)]
  refine ⟨fun q w => ∃ k : Nat, q = [.int .i64 ((c.length : Int) - 1 - k), .int .i64 (pR.ev c x k).1, .int .i64 (pR.ev c x k).2] ∧ k ≤ c.length ∧ Kn X w, fun q _ => match q with | .int _ i :: _ => (i + 1).toNat | _ => 0, fun w hw => ⟨0, by simp [Rg.ev, pR], Nat.zero_le _, hw.kn⟩, ?_⟩
  rintro _ _ _ w ⟨k, he, hk, hkn⟩
  simp only [List.cons.injEq, and_true] at he
  obtain ⟨rfl, rfl, rfl⟩ := he
  rw [ask_geq]
  refine a_ifD (fun hlt => ?_) fun hge => ?_
  · refine a_mkP hP ?_
    refine i_PMul hP hS (pR.ev c x k) x ?_
    refine a_mkP hP ?_
    have ej : Value.int .i64 ((c.length : Int) - 1 - k) = J (c.length - 1 - k) := by congr 1; omega
    rw [ej]
    refine ld_Pr hP hkn (hl.1.stp0 (hkn.stp0 hX)) (by omega) (fun _ _ => List.not_mem_nil) ?_
    refine i_PAdd hP hS _ _ ?_
    refine a_P2 ?_
    refine a_sel1 rfl (a_sel1 rfl ?_)
    rw [← ej, ask_subI (by omega)]
    intro w2 hw2
    refine ⟨⟨k + 1, ?_, by omega, hw2.kn⟩, by simp; omega⟩
    simp only [List.cons.injEq, Value.int.injEq, true_and, and_true]
    exact ⟨by omega, rfl, rfl⟩
  · obtain rfl : k = c.length := by omega
    refine a_plain rfl (a_plain rfl ?_)
    exact hR _ _ _ _ fun _ _ => rfl
/-! ### Inner -/
def ann19 : Ann := ⟨[(5, ([17], [1]))], [], 70, [], [], none, [], []⟩
def kb19_0 (b0 b1 : Nat) : List KB := [⟨b0, true, 40, #[(J 0), (J 0)]⟩, ⟨b1, true, 40, #[(J 0), (J 0)]⟩]
theorem vc19 (X : Ctx) (β : Nat → Nat) (x0 x1 : Value) : (run Try.prog ann19 19 [.x (.v 0), .x (.v 1)] [] [] 3).den X (env0 [x0, x1] X.w0) 3 β 0 (fun _ _ _ => False) = (
 AskNew X.w0 fun b0 =>
 AskNew X.w0 fun b1 =>
 Ask (rLen X.P 37 x0) fun x3 =>
 Ask (rLen X.P 37 x1) fun x4 =>
 Ask (rBin X.P .neq 3 false false x3 x4) fun x5 =>
 (∃ t, x5 = .bool t) ∧ (x5 = .bool true →
 Ret X X.w0 [b0] [] (.tuple #[(.agg #[(J 0), (J 0)]), (J 2)])) ∧ (x5 = .bool false →
 Ask (rLen X.P 37 x0) fun x6 =>
 ∃ (I0 : List Value → World → Prop) (μ0 : List Value → World → Nat), (∀ w, KnownV X X.w0 [] (kb19_0 b0 b1) w → I0 [(J 0), (J 0), (J 0)] w) ∧ ∀ x7 x8 x9 w10, I0 [x7, x8, x9] w10 →
 Ask (rBin X.P .lss 3 false false x7 x6) fun x11 =>
 (∃ t, x11 = .bool t) ∧ (x11 = .bool true →
 Ask (rIad X.P 37 x0 x7) fun x12 =>
 Ask (rLoad X w10 [] 40 x12) fun x13 =>
 AskNew w10 fun b2 =>
 Ask (rAgg 2 x13) fun x14 =>
 Ask (rSel (aggArr x14) 0 1 false) fun x15 =>
 Ask (rSel (aggArr x14) 1 1 false) fun x16 =>
 Ask (rGen X.P (Op.makeInterface 40 (Operand.tmp 22)) 20 [(22, (.agg #[x8, x9]))]) fun x17 =>
 Ask (rGen X.P (Op.makeInterface 40 (Operand.tmp 24)) 20 [(24, (.agg #[x15, x16]))]) fun x18 =>
 Ask (rIad X.P 37 x1 x7) fun x19 =>
 Ask (rLoad X w10 [b2] 40 x19) fun x20 =>
 AskI X x18 "Mul" [x20] fun x21 =>
 AskI X x17 "Add" [x21] fun x22 =>
 Ask (rAgg 2 x22) fun x23 =>
 Ask (rSel (aggArr x23) 0 1 false) fun x24 =>
 Ask (rSel (aggArr x23) 1 1 false) fun x25 =>
 Ask (rBin X.P .add 3 false true x7 (J 1)) fun x26 =>
 Again X w10 [b1, b2] [] fun w => I0 [x26, x24, x25] w ∧ μ0 [x26, x24, x25] w < μ0 [x7, x8, x9] w10) ∧ (x11 = .bool false →
 Ask (rPlain x8) fun x12 =>
 Ask (rPlain x9) fun x13 =>
 Ret X w10 [b0] [] (.tuple #[(.agg #[x12, x13]), (J 0)])))) := by kernel_rfl
def cPIn : Contract := fnW (Cods.cons cLP (Cods.cons cLP Cods.nil)) (fun p _ => p.1.length ≤ 1000 ∧ p.2.1.length = p.1.length) (fun p _ v _ => v = .tuple #[P2 (pR.inner p.1 p.2.1), J 0])
theorem keepsPIn : Keeps1 Try.prog GA 19 cPIn := by
  refine keepsW (T := TAp) (A := ann19) hMix keepTAp hGA (calls_of (by kernel_rfl)) (callsW_of (by kernel_rfl)) fun args ⟨a, b, _⟩ w0 hrd hpre hg => ?_
  obtain ⟨va, _, rfl, ha, vb, _, rfl, hb, rfl⟩ := hrd
  replace ha : LsP w0 va a := ha
  replace hb : LsP w0 vb b := hb
  dsimp only at hpre
  obtain ⟨hla, hlb⟩ := hpre
  refine ⟨[.x (.v 0), .x (.v 1)], [], [], 3, env0 [va, vb] w0, fun b => b, 0, rfl, rfl, fun X hX => mem_none hX rfl, fun X hP hS hw hX hR => ?_⟩
  subst hw; try dsimp only at hR
  rw [vc19 X]
  intro b0 hb0 b1 hb1
  refine a_len hP tyPr ha.1 (a_len hP tyPr hb.1 ?_)
  rw [ask_neqN, hlb, decide_eq_true rfl]
  refine a_if (fun h => by cases h) fun _ => ?_
  refine a_len hP tyPr ha.1 ?_
  refine ⟨fun q w => ∃ k : Nat, q = [J k, .int .i64 (pR.inn a b k).1, .int .i64 (pR.inn a b k).2] ∧ k ≤ a.length ∧ Kn X w, fun q _ => match q with | i :: _ => a.length - intNat i | _ => 0, fun w hw => ⟨0, by simp [Rg.inn, pR], Nat.zero_le _, hw.kn⟩, ?_⟩
  rintro _ _ _ w ⟨k, he, hk, hkn⟩
  simp only [List.cons.injEq, and_true] at he
  obtain ⟨rfl, rfl, rfl⟩ := he
  rw [ask_lssN]
  refine a_ifD (fun hlt => ?_) fun hge => ?_
  · refine ld_Pr hP hkn (ha.1.stp0 (hkn.stp0 hX)) hlt (fun _ _ => List.not_mem_nil) ?_
    intro b2 hb2
    refine a_P2 (a_sel1 rfl (a_sel1 rfl ?_))
    refine a_mkP hP (a_mkP hP ?_)
    have hbw := hb.1.stp0 (hkn.stp0 hX)
    refine ld_Pr hP hkn hbw (by omega) (slAt_off hbw (by rw [flat_len encPr_len]; omega) (by simpa using hb2)) ?_
    refine i_PMul hP hS (a.getD k pR.zero) _ ?_
    refine i_PAdd hP hS (pR.inn a b k) _ ?_
    refine a_P2 (a_sel1 rfl (a_sel1 rfl ?_))
    rw [ask_succ (by omega)]
    intro w2 hw2
    exact ⟨⟨k + 1, rfl, hlt, hw2.kn⟩, by simp [intNat]; omega⟩
  · obtain rfl : k = a.length := by omega
    refine a_plain rfl (a_plain rfl ?_)
    exact hR _ _ _ _ fun _ _ => rfl
/-! ### Powers -/
def ann18 : Ann := ⟨[(6, ([22], [1]))], [], 70, [], [], none, [], []⟩
def kb18_0 (b0 : Nat) (x0 x1 : Value) : List KB := [⟨b0, true, 40, #[x0, x1]⟩]
def kb18_1 (b0 b1 : Nat) (x0 x1 x11 x12 : Value) : List KB := [⟨b0, true, 40, #[x0, x1]⟩, ⟨b1, true, 40, #[x11, x12]⟩]
def kb18_2 (b0 b1 : Nat) (x0 x1 x15 x16 : Value) : List KB := [⟨b0, true, 40, #[x0, x1]⟩, ⟨b1, true, 40, #[x15, x16]⟩]
theorem vc18 (X : Ctx) (β : Nat → Nat) (x0 x1 x2 : Value) : (run Try.prog ann18 18 [.l [.v 0, .v 1], .x (.v 2)] [] [] 4).den X (env0 [x0, x1, x2] X.w0) 4 β 0 (fun _ _ _ => False) = (
 AskNew X.w0 fun b0 =>
 Ask (rBin X.P .lss 3 false true x2 (J 0)) fun x4 =>
 AskG [(x4, false)] (rBin X.P .gtr 3 false true x2 (J 4096)) fun x5 =>
 Ask (rPick x4 (.bool true) x5) fun x6 =>
 (∃ t, x6 = .bool t) ∧ (x6 = .bool true →
 Ret X X.w0 [] [] (.tuple #[(.slice none 0 0), (J 1)])) ∧ (x6 = .bool false →
 AskO X X.w0 [] (kb18_0 b0 x0 x1) false (Op.makeSlice 37 (Operand.tmp 15) (Operand.tmp 15)) 37 [(15, x2), (15, x2)] fun x7 w7 =>
 Ask (rGen X.P (Op.makeInterface 40 (Operand.tmp 17)) 20 [(17, (.agg #[x0, x1]))]) fun x8 =>
 AskI X x8 "One" [] fun x9 =>
 AskNew w7 fun b1 =>
 Ask (rAgg 2 x9) fun x10 =>
 Ask (rSel (aggArr x10) 0 1 false) fun x11 =>
 Ask (rSel (aggArr x10) 1 1 false) fun x12 =>
 Ask (rLen X.P 37 x7) fun x13 =>
 ∃ (I0 : List Value → World → Prop) (μ0 : List Value → World → Nat), (∀ w, KnownV X w7 [b1] (kb18_1 b0 b1 x0 x1 x11 x12) w → I0 [(J 0), x11, x12] w) ∧ ∀ x14 x15 x16 w17, I0 [x14, x15, x16] w17 →
 Ask (rBin X.P .lss 3 false false x14 x13) fun x18 =>
 (∃ t, x18 = .bool t) ∧ (x18 = .bool true →
 Ask (rIad X.P 37 x7 x14) fun x19 =>
 AskO X w17 [] (kb18_2 b0 b1 x0 x1 x15 x16) true (Op.store 40 (Operand.tmp 28) (Operand.tmp 27)) 0 [(28, x19), (27, (.agg #[x15, x16]))] fun _ w20 =>
 Ask (rGen X.P (Op.makeInterface 40 (Operand.tmp 29)) 20 [(29, (.agg #[x15, x16]))]) fun x21 =>
 AskI X x21 "Mul" [(.agg #[x0, x1])] fun x22 =>
 Ask (rAgg 2 x22) fun x23 =>
 Ask (rSel (aggArr x23) 0 1 false) fun x24 =>
 Ask (rSel (aggArr x23) 1 1 false) fun x25 =>
 Ask (rBin X.P .add 3 false true x14 (J 1)) fun x26 =>
 Again X w20 [b1] [] fun w => I0 [x26, x24, x25] w ∧ μ0 [x26, x24, x25] w < μ0 [x14, x15, x16] w17) ∧ (x18 = .bool false →
 Ret X w17 [] [] (.tuple #[x7, (J 0)])))) := by kernel_rfl
def cNat : Cod Nat := ⟨fun _ v n => v = J n, fun _ _ a b h k => by rw [h] at k; simp at k; omega⟩
def cPPw : Contract := fnW (Cods.cons cPr (Cods.cons cNat Cods.nil)) (fun p _ => p.2.1 ≤ 1000) (fun p w v w' => ∃ x, v = .tuple #[x, J 0] ∧ w'.ownsRow w.heap.size 40 2 x p.2.1 ((tabN (pR.pw p.1) p.2.1).flatMap encPr))
/-- A table that is filled from the left. -/
def fillN (f : Nat → Z2) (i n : Nat) : List Z2 := tabN (fun j => if j < i then f j else pR.zero) n
theorem fillN_set (f : Nat → Z2) (i n : Nat) : (fillN f i n).set i (f i) = fillN f (i + 1) n := by
  rw [fillN, tabN_set]
  refine tabN_congr fun j hj => ?_
  by_cases e : j = i
  · subst e; rw [if_pos rfl, if_pos (by omega)]
  · rw [if_neg e]
    by_cases q : j < i
    · rw [if_pos q, if_pos (by omega)]
    · rw [if_neg q, if_neg (by omega)]
theorem fillN_full (f : Nat → Z2) (n : Nat) : fillN f n n = tabN f n := tabN_congr fun i hi => by rw [if_pos hi]
theorem fillN_len (f : Nat → Z2) (i n : Nat) : (fillN f i n).length = n := tabN_len _ _
theorem made_Pr (n : Nat) : (madeCells (Value.agg #[J 0, J 0]).cells (n * 2)).toList = (List.replicate n pR.zero).flatMap encPr := made_enc (α := Z2) (enc := encPr) (a := pR.zero) (s := 2) (by kernel_rfl) rfl (by decide) n
theorem keepsPPw : Keeps1 Try.prog GA 18 cPPw := by
  refine keepsW (T := TAp) (A := ann18) hMix keepTAp hGA (calls_of (by kernel_rfl)) (callsW_of (by kernel_rfl)) fun args ⟨x, n, _⟩ w0 hrd hpre _ => ?_
  obtain ⟨_, _, rfl, rfl, _, _, rfl, rfl, rfl⟩ := hrd
  dsimp only at hpre
  refine ⟨[.l [.v 0, .v 1], .x (.v 2)], [], [], 4, env0 [.int .i64 x.1, .int .i64 x.2, J n] w0, fun b => b, 0, rfl, rfl, fun X hX => mem_none hX rfl, fun X hP hS hw hX hR => ?_⟩
  subst hw; try dsimp only at hR
  rw [vc18 X]
  intro b0 hb0
  rw [ask_lssN]
  rw [show decide (n < 0) = false by simp]
  refine a_G_on condsV1 ?_
  rw [ask_gtr, ask_pickF]
  refine a_ifD (fun h => by omega) fun _ => ?_
  refine a_make (n := n) hX hP tyPr (by simp [argsFn]) (by simp [argsFn]) (by omega) (by unfold maxLen; omega) fun g u1 w1 h1 k1 s1 su1 o1 => ?_
  rw [made_Pr, tabN_rep, show tabN (fun _ => pR.zero) n = fillN (pR.pw x) 0 n from tabN_congr fun i _ => by rw [if_neg (by omega)]] at o1
  refine a_mkP hP ?_
  refine call_I hP hS (T := TAp) (f := 54) rfl x (methPOne x) trivial ?_
  intro b1 hb1
  refine a_P2 (a_sel1 rfl (a_sel1 rfl ?_))
  refine a_len hP tyPr (own_slAt o1) ?_
  have l1 : b0 < u1.heap.size := h1.low (by simp [kb18_0])
  refine ⟨fun q w => ∃ i, q = [J i, .int .i64 (pR.pw x i).1, .int .i64 (pR.pw x i).2] ∧ i ≤ n ∧ Kn X w ∧ w.ownsRow u1.heap.size 40 2 (.slice (some ⟨g, 0, none⟩) n n) n ((fillN (pR.pw x) i n).flatMap encPr), fun q _ => match q with | i :: _ => n - intNat i | _ => 0, fun w hw => ⟨0, rfl, Nat.zero_le _, hw.kn, own_stp o1 hw.stp fun q hq hm => ?_⟩, ?_⟩
  · have := (o1.lt q hq).2
    simp at hm; omega
  rintro _ _ _ w ⟨i, he, hi, hk, ho⟩
  simp only [List.cons.injEq, and_true] at he
  obtain ⟨rfl, rfl, rfl⟩ := he
  rw [ask_lssN]
  refine a_ifD (fun hlt => ?_) fun hge => ?_
  · refine a_iadN hP tyPr (own_slAt ho) hlt ?_
    have gb : ∀ g', (Value.slice (some ⟨g, 0, none⟩) n n).ownBlock = some g' → u1.heap.size ≤ g' ∧ g' < w1.heap.size := fun g' hg' => o1.lt g' hg'
    refine a_store (vs := encPr (pR.pw x i)) hX hP szPr rfl rfl rfl rfl (one_encPr _) ho h1.sz0 (by omega) (by decide) (fun _ _ => List.not_mem_nil) (fun w4 hw4 g' hg' hm => by
      have := gb g' hg'
      simp only [kb18_2, List.map_cons, List.map_nil, List.mem_cons, List.not_mem_nil, or_false] at hm
      omega) fun q w4 w5 hw4 hk5 hs5 hsu5 ho5 => ?_
    rw [lset_flat encPr_len _ _ _ (by rw [fillN_len]; exact hlt), fillN_set] at ho5
    refine a_mkP hP ?_
    refine i_PMul hP hS (pR.pw x i) x ?_
    refine a_P2 (a_sel1 rfl (a_sel1 rfl ?_))
    rw [ask_succ (by omega)]
    intro w2 hw2
    refine ⟨⟨i + 1, rfl, hlt, hw2.kn, own_stp ho5 hw2.stp fun q hq hm => ?_⟩, by simp [intNat]; omega⟩
    have := gb q hq
    simp at hm; omega
  · obtain rfl : i = n := by omega
    rw [fillN_full] at ho
    refine hR _ _ _ _ fun w2 hw2 => ⟨_, rfl, own_mono (own_stp0 ho hw2.stp) h1.sz0⟩
