/-
  Product, Mix and the law's own lists over Pair.
-/
import Derived.Test.YtadnlcennghlbaaDAc
namespace Go.Vc
open Go Go.Proofs Go.RowKit
/-! ### Product -/
def ann14 : Ann := ⟨[(5, ([27], [])), (8, ([34], []))], [], 70, [], [], none, [], []⟩
def kb14_0 (b0 : Nat) (x20 x21 : Value) : List KB := [⟨b0, true, 40, #[x20, x21]⟩]
def kb14_1 (b0 b1 : Nat) (x20 x21 x29 x30 : Value) : List KB := [⟨b0, true, 40, #[x20, x21]⟩, ⟨b1, true, 40, #[x29, x30]⟩]
theorem vc14 (X : Ctx) (β : Nat → Nat) (x0 x1 : Value) : (run Try.prog ann14 14 [.x (.v 0), .x (.v 1)] [] [] 3).den X (env0 [x0, x1] X.w0) 3 β 0 (fun _ _ _ => False) = (
 Ask (rLen X.P 37 x0) fun x3 =>
 Ask (rBin X.P .eql 3 false true x3 (J 0)) fun x4 =>
 AskG [(x4, false)] (rLen X.P 37 x1) fun x5 =>
 AskG [(x4, false)] (rBin X.P .eql 3 false true x5 (J 0)) fun x6 =>
 Ask (rPick x4 (.bool true) x6) fun x7 =>
 (∃ t, x7 = .bool t) ∧ (x7 = .bool true →
 Ret X X.w0 [] [] (.slice none 0 0)) ∧ (x7 = .bool false →
 Ask (rLen X.P 37 x0) fun x8 =>
 Ask (rLen X.P 37 x1) fun x9 =>
 Ask (rBin X.P .add 3 false false x8 x9) fun x10 =>
 Ask (rBin X.P .sub 3 false true x10 (J 1)) fun x11 =>
 AskO X X.w0 [] [] false (Op.makeSlice 37 (Operand.tmp 23) (Operand.tmp 23)) 37 [(23, x11), (23, x11)] fun x12 w12 =>
 Ask (rLen X.P 37 x0) fun x13 =>
 ∃ (I0 : List Value → World → Prop) (μ0 : List Value → World → Nat), (∀ w, KnownV X w12 [] [] w → I0 [(J 0)] w) ∧ ∀ x14 w15, I0 [x14] w15 →
 Ask (rBin X.P .lss 3 false false x14 x13) fun x16 =>
 (∃ t, x16 = .bool t) ∧ (x16 = .bool true →
 Ask (rIad X.P 37 x0 x14) fun x17 =>
 Ask (rLoad X w15 [] 40 x17) fun x18 =>
 AskNew w15 fun b0 =>
 Ask (rAgg 2 x18) fun x19 =>
 Ask (rSel (aggArr x19) 0 1 false) fun x20 =>
 Ask (rSel (aggArr x19) 1 1 false) fun x21 =>
 Ask (rLen X.P 37 x1) fun x22 =>
 ∃ (I1 : List Value → World → Prop) (μ1 : List Value → World → Nat), (∀ w, KnownV X w15 [b0] (kb14_0 b0 x20 x21) w → I1 [(J 0)] w) ∧ ∀ x23 w24, I1 [x23] w24 →
 Ask (rBin X.P .lss 3 false false x23 x22) fun x25 =>
 (∃ t, x25 = .bool t) ∧ (x25 = .bool true →
 Ask (rIad X.P 37 x1 x23) fun x26 =>
 Ask (rLoad X w24 [] 40 x26) fun x27 =>
 AskNew w24 fun b1 =>
 Ask (rAgg 2 x27) fun x28 =>
 Ask (rSel (aggArr x28) 0 1 false) fun x29 =>
 Ask (rSel (aggArr x28) 1 1 false) fun x30 =>
 Ask (rBin X.P .add 3 false false x14 x23) fun x31 =>
 Ask (rBin X.P .add 3 false false x14 x23) fun x32 =>
 Ask (rIad X.P 37 x12 x32) fun x33 =>
 Ask (rLoad X w24 [b1] 40 x33) fun x34 =>
 Ask (rGen X.P (Op.makeInterface 40 (Operand.tmp 48)) 20 [(48, x34)]) fun x35 =>
 Ask (rGen X.P (Op.makeInterface 40 (Operand.tmp 50)) 20 [(50, (.agg #[x20, x21]))]) fun x36 =>
 AskI X x36 "Mul" [(.agg #[x29, x30])] fun x37 =>
 AskI X x35 "Add" [x37] fun x38 =>
 Ask (rIad X.P 37 x12 x31) fun x39 =>
 AskO X w24 [b1] (kb14_1 b0 b1 x20 x21 x29 x30) true (Op.store 40 (Operand.tmp 55) (Operand.tmp 54)) 0 [(55, x39), (54, x38)] fun _ w40 =>
 Ask (rBin X.P .add 3 false true x23 (J 1)) fun x41 =>
 Again X w40 [] [] fun w => I1 [x41] w ∧ μ1 [x41] w < μ1 [x23] w24) ∧ (x25 = .bool false →
 Ask (rBin X.P .add 3 false true x14 (J 1)) fun x26 =>
 Again X w24 [] [] fun w => I0 [x26] w ∧ μ0 [x26] w < μ0 [x14] w15)) ∧ (x16 = .bool false →
 Ret X w15 [] [] x12))) := by kernel_rfl
def cPPr : Contract := fnW (Cods.cons cLP (Cods.cons cLP Cods.nil)) (fun p _ => p.1.length ≤ 1000 ∧ p.2.1.length ≤ 1000) (fun p w v w' => w'.ownsRow w.heap.size 40 2 v (pR.product p.1 p.2.1).length ((pR.product p.1 p.2.1).flatMap encPr))
theorem prow_set {A : Type} (R : Rg A) (c d : List A) (i j n : Nat) (o : Nat → A) : (tabN (R.prow c d i j o) n).set (i + j) (R.add (R.prow c d i j o (i + j)) (R.mul (c.getD i R.zero) (d.getD j R.zero))) = tabN (R.prow c d i (j + 1) o) n := by
  rw [tabN_set]
  rfl
theorem own_off0 {w : World} {base size n : Nat} {e : TypeId} {v : Value} {xs : List Value} (h : w.ownsRow base e size v n xs) {b : Nat} (hb : w.heap.size ≤ b) : ∀ g, v.ownBlock = some g → g ∉ [b] := fun g hg hm => by
  have := (h.lt g hg).2
  simp at hm; omega
theorem keepsPPr : Keeps1 Try.prog GA 14 cPPr := by
  refine keepsW (T := TAp) (A := ann14) hMix keepTAp hGA (calls_of (by kernel_rfl)) (callsW_of (by kernel_rfl)) fun args ⟨a, b, _⟩ w0 hrd hpre hg => ?_
  obtain ⟨va, _, rfl, ha, vb, _, rfl, hb, rfl⟩ := hrd
  replace ha : LsP w0 va a := ha
  replace hb : LsP w0 vb b := hb
  dsimp only at hpre
  obtain ⟨hla, hlb⟩ := hpre
  refine ⟨[.x (.v 0), .x (.v 1)], [], [], 3, env0 [va, vb] w0, fun b => b, 0, rfl, rfl, fun X hX => mem_none hX rfl, fun X hP hS hw hX hR => ?_⟩
  subst hw; try dsimp only at hR
  rw [vc14 X]
  refine a_len hP tyPr ha.1 ?_
  rw [ask_eqlN]
  have fin0 : a.length = 0 ∨ b.length = 0 → Ret X X.w0 [] [] (.slice none 0 0) := fun h => hR _ _ _ _ fun w hw => by
    show w.ownsRow _ _ _ _ (pR.product a b).length _
    rw [Rg.product, if_pos h]
    exact World.ownsRow_nil _ _ _ _
  have pick : Ask (rPick (.bool (decide (a.length = 0))) (.bool true) (.bool (decide (b.length = 0)))) (fun v => v = .bool (decide (a.length = 0) || decide (b.length = 0))) := by
    cases decide (a.length = 0)
    · rw [ask_pickF]; rfl
    · rw [ask_pickT]; rfl
  have main : AskG [(.bool (decide (a.length = 0)), false)] (rLen X.P 37 vb) fun x5 => AskG [(.bool (decide (a.length = 0)), false)] (rBin X.P .eql 3 false true x5 (J 0)) fun x6 => Ask (rPick (.bool (decide (a.length = 0))) (.bool true) x6) fun v => v = .bool (decide (a.length = 0) || decide (b.length = 0)) := by
    by_cases h : a.length = 0
    · rw [decide_eq_true h]
      refine a_G_off (condsV1_not (by decide)) fun _ => a_G_off (condsV1_not (by decide)) fun _ => ?_
      rw [ask_pickT]; rfl
    · rw [decide_eq_false h]
      refine a_G_on condsV1 (a_len hP tyPr hb.1 ?_)
      refine a_G_on condsV1 ?_
      rw [ask_eqlN, ask_pickF]; rfl
  refine ⟨main.1, fun x5 h5 => ?_⟩
  have m5 := main.2 x5 h5
  refine ⟨m5.1, fun x6 h6 => ?_⟩
  have m6 := m5.2 x6 h6
  refine ⟨m6.1, fun x7 h7 => ?_⟩
  have m7 := m6.2 x7 h7
  dsimp only at m7
  rw [m7]
  refine a_if (fun h => fin0 (by simpa using h)) fun h => ?_
  have hne : ¬ (a.length = 0 ∨ b.length = 0) := by simpa using h
  clear fin0 pick main m5 m6 m7 h5 h6 h7 h
  refine a_len hP tyPr ha.1 (a_len hP tyPr hb.1 ?_)
  rw [ask_addN (by omega), ask_subN (by omega) (by omega)]
  obtain ⟨N, hN⟩ : ∃ N, N = a.length + b.length - 1 := ⟨_, rfl⟩
  rw [← hN]
  refine a_make (n := N) hX hP tyPr (by simp [argsFn]) (by simp [argsFn]) (by omega) (by unfold maxLen; omega) fun g u1 w1 h1 k1 s1 su1 o1 => ?_
  rw [made_Pr, tabN_rep, show tabN (fun _ => pR.zero) N = tabN (pR.prod a b 0) N from rfl] at o1
  have gb : ∀ g', (Value.slice (some ⟨g, 0, none⟩) N N).ownBlock = some g' → u1.heap.size ≤ g' ∧ g' < w1.heap.size := fun g' hg' => o1.lt g' hg'
  refine a_len hP tyPr ha.1 ?_
  refine ⟨fun q w => ∃ i, q = [J i] ∧ i ≤ a.length ∧ Kn X w ∧ w1.heap.size ≤ w.heap.size ∧ w.ownsRow u1.heap.size 40 2 (.slice (some ⟨g, 0, none⟩) N N) N ((tabN (pR.prod a b i) N).flatMap encPr), fun q _ => match q with | i :: _ => a.length - intNat i | _ => 0, fun w hw => ⟨0, rfl, Nat.zero_le _, hw.kn, hw.size, own_stp0 o1 hw.stp⟩, ?_⟩
  rintro _ w ⟨i, he, hi, hk, hz, ho⟩
  simp only [List.cons.injEq, and_true] at he
  subst he
  rw [ask_lssN]
  refine a_ifD (fun hlt => ?_) fun hge => ?_
  · have hs0 := hk.stp0 hX
    refine ld_Pr hP hk (ha.1.stp0 hs0) hlt (fun _ _ => List.not_mem_nil) ?_
    intro b0 hb0
    refine a_P2 (a_sel1 rfl (a_sel1 rfl ?_))
    refine a_len hP tyPr hb.1 ?_
    refine ⟨fun q w => ∃ j, q = [J j] ∧ j ≤ b.length ∧ Kn X w ∧ w1.heap.size ≤ w.heap.size ∧ w.ownsRow u1.heap.size 40 2 (.slice (some ⟨g, 0, none⟩) N N) N ((tabN (pR.prow a b i j (pR.prod a b i)) N).flatMap encPr), fun q _ => match q with | i :: _ => b.length - intNat i | _ => 0, fun w' hw => ⟨0, rfl, Nat.zero_le _, hw.kn, Nat.le_trans hz hw.size, own_stp ho hw.stp (own_off0 ho hb0)⟩, ?_⟩
    rintro _ w24 ⟨j, he, hj, hk24, hz24, ho24⟩
    simp only [List.cons.injEq, and_true] at he
    subst he
    rw [ask_lssN]
    refine a_ifD (fun hlj => ?_) fun hgj => ?_
    · refine ld_Pr hP hk24 (hb.1.stp0 (hk24.stp0 hX)) hlj (fun _ _ => List.not_mem_nil) ?_
      intro b1 hb1
      refine a_P2 (a_sel1 rfl (a_sel1 rfl ?_))
      rw [ask_addN (by omega), ask_addN (by omega)]
      have hl24 : (tabN (pR.prow a b i j (pR.prod a b i)) N).length = N := tabN_len _ _
      have sl24 := own_slAt ho24
      refine ld_Pr (l := tabN (pR.prow a b i j (pR.prod a b i)) N) hP hk24 (by rw [hl24]; exact sl24) (by rw [hl24]; omega) (own_off0 ho24 hb1) ?_
      rw [tabN_get _ _ (by omega)]
      refine a_mkP hP (a_mkP hP ?_)
      refine i_PMul hP hS (a.getD i pR.zero) (b.getD j pR.zero) ?_
      refine i_PAdd hP hS _ _ ?_
      refine a_iadN hP tyPr sl24 (by omega) ?_
      refine a_store (vs := encPr (pR.add (pR.prow a b i j (pR.prod a b i) (i + j)) (pR.mul (a.getD i pR.zero) (b.getD j pR.zero)))) hX hP szPr rfl rfl rfl rfl (one_encPr _) ho24 h1.sz0 (by omega) (by decide) (own_off0 ho24 hb1) (fun w4 hw4 g' hg' hm => by
        have h6 := gb g' hg'
        simp only [kb14_1, List.map_cons, List.map_nil, List.mem_cons, List.not_mem_nil, or_false] at hm
        omega) fun q w4 w5 hw4 hk5 hs5 hsu5 ho5 => ?_
      rw [lset_flat encPr_len _ _ _ (by rw [hl24]; omega), prow_set] at ho5
      rw [ask_succ (by omega)]
      intro w2 hw2
      exact ⟨⟨j + 1, rfl, hlj, hw2.kn, Nat.le_trans hz24 (Nat.le_trans hsu5.size hw2.size), own_stp0 ho5 hw2.stp⟩, by simp [intNat]; omega⟩
    · obtain rfl : j = b.length := by omega
      rw [ask_succ (by omega)]
      intro w2 hw2
      exact ⟨⟨i + 1, rfl, hlt, hw2.kn, Nat.le_trans hz24 hw2.size, own_stp0 ho24 hw2.stp⟩, by simp [intNat]; omega⟩
  · obtain rfl : i = a.length := by omega
    refine hR _ _ _ _ fun w2 hw2 => ?_
    show w2.ownsRow _ _ _ _ (pR.product a b).length _
    rw [Rg.product, if_neg hne, tabN_len, ← hN]
    exact own_mono (own_stp0 ho hw2.stp) h1.sz0
/-! ### Mix -/
theorem cellSt {ex : List Nat} {u w : World} {b o : Nat} {v : Value} (h : u.cell? ⟨b, o, none⟩ = some v) (hs : Stp ex u w) (hb : b ∉ ex) : w.cell? ⟨b, o, none⟩ = some v := by
  rw [World.cell?_of_block (w := u) (hs.past b (World.block_lt_of_cell? u _ h) hb)]; exact h
theorem cellKb {X : Ctx} {u w : World} {ow : List Nat} {bl : List KB} (hw : KnownV X u ow bl w) {b t : Nat} {cs : Array Value} {v : Value} (h : (⟨b, true, t, cs⟩ : KB) ∈ bl) (o : Nat) (hv : cs[o]? = some v) : w.cell? ⟨b, o, none⟩ = some v := by
  have := (hw.blk _ h).1
  simp only [if_true] at this
  simp [World.cell?, this, hv]
theorem ask_mkFn {P : Program} {K : Value → Prop} {f ty : Nat} {cs : Array Operand} {l : List (Nat × Value)} {ps : Array Value} (h : cs.map (argsFn l) = ps) : Ask (rGen P (.makeFunc (.func f) #[] cs) ty l) K = K (.func (.func f) #[] ps) :=
  ask_eq (runsN_iff fun w => by simp [execOp, Instr.makeFunc, h])
abbrev Ptw (b : Nat) : Value := .pointer (some ⟨b, 0, none⟩)
/-- A Pair in a variable. -/
def PrAt (w : World) (b : Nat) (p : Z2) : Prop := w.cell? ⟨b, 0, none⟩ = some (.int .i64 p.1) ∧ w.cell? ⟨b, 1, none⟩ = some (.int .i64 p.2)
theorem PrAt.stp {ex : List Nat} {u w : World} {b : Nat} {p : Z2} (h : PrAt u b p) (hs : Stp ex u w) (hb : b ∉ ex) : PrAt w b p := ⟨cellSt h.1 hs hb, cellSt h.2 hs hb⟩
theorem PrAt.inj {w : World} {b : Nat} {p q : Z2} (h : PrAt w b p) (k : PrAt w b q) : p = q := by
  have h1 := h.1.symm.trans k.1
  have h2 := h.2.symm.trans k.2
  simp only [Option.some.injEq, Value.int.injEq, true_and] at h1 h2
  exact Prod.ext h1 h2
def cVP : Cod Z2 := ⟨fun w v p => ∃ b, v = Ptw b ∧ PrAt w b p, fun w v p q ⟨b, e, h⟩ ⟨b', e', k⟩ => by
  rw [e] at e'
  simp only [Value.pointer.injEq, Option.some.injEq, Addr.mk.injEq, and_true] at e'
  subst e'
  exact h.inj k⟩
theorem a_ldV {X : Ctx} {u : World} {ow : List Nat} {K : Value → Prop} {b : Nat} {p : Z2} (hP : X.P = Try.prog) (hk : Kn X u) (hc : PrAt u b p) (how : b ∉ ow) (hK : K (P2 p)) : Ask (rLoad X u ow 40 (Ptw b)) K := by
  rw [ask_load_agg (cs := encPr p) (by rw [hP]; exact aggPr) (by rw [hP]; exact szPr) (World.block_lt_of_cell? u _ hc.1) how (fun j v hj => by
    match j with
    | 0 => simp [encPr] at hj; subst hj; exact hc.1
    | 1 => simp [encPr] at hj; subst hj; exact hc.2
    | j + 2 => simp [encPr] at hj) hk.some]
  exact hK
def ann27 : Ann := ⟨[], [], 70, [], [], none, [], []⟩
theorem vc27 (X : Ctx) (β : Nat → Nat) (x0 x1 x2 x3 x4 x5 : Value) : (run Try.prog ann27 27 [.l [.v 0, .v 1], .l [.v 2, .v 3], .x (.v 4), .x (.v 5)] [] [] 7).den X (env0 [x0, x1, x2, x3, x4, x5] X.w0) 7 β 0 (fun _ _ _ => False) = (
 AskNew X.w0 fun _ =>
 AskNew X.w0 fun _ =>
 AskNew X.w0 fun b2 =>
 Ask (rLoad X X.w0 [] 40 x4) fun x7 =>
 Ask (rGen X.P (Op.makeInterface 40 (Operand.tmp 7)) 20 [(7, x7)]) fun x8 =>
 AskI X x8 "Mul" [(.agg #[x0, x1])] fun x9 =>
 Ask (rGen X.P (Op.makeInterface 40 (Operand.tmp 10)) 20 [(10, x9)]) fun x10 =>
 Ask (rLoad X X.w0 [] 40 x5) fun x11 =>
 Ask (rGen X.P (Op.makeInterface 40 (Operand.tmp 12)) 20 [(12, x11)]) fun x12 =>
 AskI X x12 "Mul" [(.agg #[x2, x3])] fun x13 =>
 AskI X x10 "Add" [x13] fun x14 =>
 Ask (rAgg 2 x14) fun x15 =>
 Ask (rSel (aggArr x15) 0 1 false) fun x16 =>
 Ask (rSel (aggArr x15) 1 1 false) fun x17 =>
 Ret X X.w0 [b2] [] (.agg #[x16, x17])) := by kernel_rfl
def mixV (x y s t : Z2) : Z2 := pR.add (pR.mul x s) (pR.mul y t)
def cMx1 : Contract := fnW (Cods.cons cPr (Cods.cons cPr (Cods.cons cVP (Cods.cons cVP Cods.nil)))) (fun _ _ => True) (fun p _ v _ => v = P2 (mixV p.2.2.1 p.2.2.2.1 p.1 p.2.1))
theorem keepsMx1 : Keeps1 Try.prog GA 27 cMx1 := by
  refine keepsW (T := TAp) (A := ann27) hMix keepTAp hGA (calls_of (by kernel_rfl)) (callsW_of (by kernel_rfl)) fun args ⟨s, t, x, y, _⟩ w0 hrd _ _ => ?_
  obtain ⟨_, _, rfl, rfl, _, _, rfl, rfl, _, _, rfl, ⟨bx, rfl, hx⟩, _, _, rfl, ⟨by', rfl, hy⟩, rfl⟩ := hrd
  dsimp only at hx hy
  refine ⟨[.l [.v 0, .v 1], .l [.v 2, .v 3], .x (.v 4), .x (.v 5)], [], [], 7, env0 [.int .i64 s.1, .int .i64 s.2, .int .i64 t.1, .int .i64 t.2, Ptw bx, Ptw by'] w0, fun b => b, 0, rfl, rfl, fun X hX => mem_none hX rfl, fun X hP hS hw hX hR => ?_⟩
  subst hw; try dsimp only at hR
  rw [vc27 X]
  intro _ _ _ _ b2 hb2
  refine a_ldV hP (kn0 X) hx List.not_mem_nil ?_
  refine a_mkP hP ?_
  refine i_PMul hP hS x s ?_
  refine a_mkP hP ?_
  refine a_ldV hP (kn0 X) hy List.not_mem_nil ?_
  refine a_mkP hP ?_
  refine i_PMul hP hS y t ?_
  refine i_PAdd hP hS _ _ ?_
  refine a_P2 (a_sel1 rfl (a_sel1 rfl ?_))
  exact hR _ _ _ _ fun _ _ => rfl
/-- The func value that Mix makes. -/
abbrev Fmx (b c : Nat) : Value := .func (.func 27) #[] #[Ptw b, Ptw c]
def cFmx : Cod (Z2 × Z2) := ⟨fun w v p => ∃ b c, v = Fmx b c ∧ PrAt w b p.1 ∧ PrAt w c p.2, fun w v p q ⟨b, c, e, h1, h2⟩ ⟨b', c', e', k1, k2⟩ => by
  rw [e] at e'
  simp only [Value.func.injEq, true_and, Array.mk.injEq, List.cons.injEq, Value.pointer.injEq, Option.some.injEq, Addr.mk.injEq, and_true] at e'
  obtain ⟨rfl, rfl⟩ := e'
  exact Prod.ext (h1.inj k1) (h2.inj k2)⟩
def ann26 : Ann := ⟨[(5, ([20], []))], [], 70, [], [], some false, [], []⟩
theorem vc26 (X : Ctx) (β : Nat → Nat) (x0 x1 x2 : Value) : (run Try.prog ann26 26 [.x (.v 0), .x (.v 1), .x (.v 2)] [] [] 4).den X (env0 [x0, x1, x2] X.w0) 4 β 0 (fun _ _ _ => False) = (
 Ask (rLen X.P 37 x0) fun x4 =>
 Ask (rLen X.P 37 x1) fun x5 =>
 Ask (rBin X.P .neq 3 false false x4 x5) fun x6 =>
 (∃ t, x6 = .bool t) ∧ (x6 = .bool true →
 Ret X X.w0 [] [] (.tuple #[(.slice none 0 0), (J 2)])) ∧ (x6 = .bool false →
 Ask (rLen X.P 37 x0) fun x7 =>
 AskO X X.w0 [] [] false (Op.makeSlice 37 (Operand.tmp 16) (Operand.tmp 16)) 37 [(16, x7), (16, x7)] fun x8 w8 =>
 Ask (rLen X.P 37 x8) fun x9 =>
 ∃ (I0 : List Value → World → Prop) (μ0 : List Value → World → Nat), (∀ w, KnownV X w8 [] [] w → I0 [(J 0)] w) ∧ ∀ x10 w11, I0 [x10] w11 →
 Ask (rBin X.P .lss 3 false false x10 x9) fun x12 =>
 (∃ t, x12 = .bool t) ∧ (x12 = .bool true →
 Ask (rIad X.P 37 x0 x10) fun x13 =>
 Ask (rLoad X w11 [] 40 x13) fun x14 =>
 Ask (rIad X.P 37 x1 x10) fun x15 =>
 Ask (rLoad X w11 [] 40 x15) fun x16 =>
 AskV X w11 [] [] false x2 [x14, x16] fun x17 w17 =>
 Ask (rIad X.P 37 x8 x10) fun x18 =>
 AskO X w17 [] [] true (Op.store 40 (Operand.tmp 35) (Operand.tmp 34)) 0 [(35, x18), (34, x17)] fun _ w19 =>
 Ask (rBin X.P .add 3 false true x10 (J 1)) fun x20 =>
 Again X w19 [] [] fun w => I0 [x20] w ∧ μ0 [x20] w < μ0 [x10] w11) ∧ (x12 = .bool false →
 Ret X w11 [] [] (.tuple #[x8, (J 0)])))) := by kernel_rfl
def cPrs : Contract := fnW (Cods.cons cLP (Cods.cons cLP (Cods.cons cFmx Cods.nil))) (fun p _ => p.1.length ≤ 1000 ∧ p.2.1.length = p.1.length) (fun p w v w' => ∃ x, v = .tuple #[x, J 0] ∧ w'.ownsRow w.heap.size 40 2 x p.1.length ((tabN (pR.mix p.2.2.1.1 p.1 p.2.2.1.2 p.2.1) p.1.length).flatMap encPr))
def TAm : Table := TA0.add 27 cMx1
theorem keepTAm : AllKeep Try.prog GA TAm := keepTA0.add keepsMx1
theorem keepsPrs : Keeps1 Try.prog GA 26 cPrs := by
  refine keepsW (T := TAm) (A := ann26) hMix keepTAm hGA (calls_of (by kernel_rfl)) (callsW_of (by kernel_rfl)) fun args ⟨a, b, ⟨x, y⟩, _⟩ w0 hrd hpre hg => ?_
  obtain ⟨va, _, rfl, ha, vb, _, rfl, hb, _, _, rfl, ⟨bx, by', rfl, hx, hy⟩, rfl⟩ := hrd
  replace ha : LsP w0 va a := ha
  replace hb : LsP w0 vb b := hb
  dsimp only at hpre hx hy
  obtain ⟨hla, hlb⟩ := hpre
  refine ⟨[.x (.v 0), .x (.v 1), .x (.v 2)], [], [], 4, env0 [va, vb, Fmx bx by'] w0, fun b => b, 0, rfl, rfl, fun X hX => mem_none hX rfl, fun X hP hS hw hX hR => ?_⟩
  subst hw; try dsimp only at hR
  rw [vc26 X]
  refine a_len hP tyPr ha.1 (a_len hP tyPr hb.1 ?_)
  rw [ask_neqN, hlb, decide_eq_true rfl]
  refine a_if (fun h => by cases h) fun _ => ?_
  refine a_len hP tyPr ha.1 ?_
  refine a_make (n := a.length) hX hP tyPr (by simp [argsFn]) (by simp [argsFn]) (by omega) (by unfold maxLen; omega) fun g u1 w1 h1 k1 s1 su1 o1 => ?_
  rw [made_Pr, tabN_rep, show tabN (fun _ => pR.zero) a.length = fillN (pR.mix x a y b) 0 a.length from tabN_congr fun i _ => by rw [if_neg (by omega)]] at o1
  have gb : ∀ g', (Value.slice (some ⟨g, 0, none⟩) a.length a.length).ownBlock = some g' → u1.heap.size ≤ g' ∧ g' < w1.heap.size := fun g' hg' => o1.lt g' hg'
  refine a_len hP tyPr (own_slAt o1) ?_
  refine ⟨fun q w => ∃ i, q = [J i] ∧ i ≤ a.length ∧ Kn X w ∧ w.ownsRow u1.heap.size 40 2 (.slice (some ⟨g, 0, none⟩) a.length a.length) a.length ((fillN (pR.mix x a y b) i a.length).flatMap encPr), fun q _ => match q with | i :: _ => a.length - intNat i | _ => 0, fun w hw => ⟨0, rfl, Nat.zero_le _, hw.kn, own_stp0 o1 hw.stp⟩, ?_⟩
  rintro _ w ⟨i, he, hi, hk, ho⟩
  simp only [List.cons.injEq, and_true] at he
  subst he
  rw [ask_lssN]
  refine a_ifD (fun hlt => ?_) fun hge => ?_
  · have hs0 := hk.stp0 hX
    refine ld_Pr hP hk (ha.1.stp0 hs0) hlt (fun _ _ => List.not_mem_nil) ?_
    refine ld_Pr hP hk (hb.1.stp0 hs0) (by omega) (fun _ _ => List.not_mem_nil) ?_
    refine call_V hX hS rfl (fun args w => by rw [hP]; exact enters_of (by kernel_rfl) args w) (T := TAm) (f := 27) rfl (a.getD i pR.zero, b.getD i pR.zero, x, y, ()) (fun w hw => ⟨⟨_, _, rfl, rfl, _, _, rfl, rfl, _, _, rfl, ⟨bx, rfl, hx.stp (hs0.trans0 hw.stp) List.not_mem_nil⟩, _, _, rfl, ⟨by', rfl, hy.stp (hs0.trans0 hw.stp) List.not_mem_nil⟩, rfl⟩, trivial⟩) fun v u4 w4 h4 k4 s4 su4 hv => ?_
    dsimp only at hv
    subst hv
    have ho4 := own_stp0 ho su4
    refine a_iadN hP tyPr (own_slAt ho4) hlt ?_
    refine a_store (vs := encPr (pR.mix x a y b i)) hX hP szPr rfl rfl rfl rfl (one_encPr _) ho4 h1.sz0 (by omega) (by decide) (fun _ _ => List.not_mem_nil) (fun _ _ _ _ => List.not_mem_nil) fun q w5 w6 hw5 hk6 hs6 hsu6 ho6 => ?_
    rw [lset_flat encPr_len _ _ _ (by rw [fillN_len]; exact hlt), fillN_set] at ho6
    rw [ask_succ (by omega)]
    intro w2 hw2
    exact ⟨⟨i + 1, rfl, hlt, hw2.kn, own_stp0 ho6 hw2.stp⟩, by simp [intNat]; omega⟩
  · obtain rfl : i = a.length := by omega
    rw [fillN_full] at ho
    exact hR _ _ _ _ fun w2 hw2 => ⟨_, rfl, own_mono (own_stp0 ho hw2.stp) h1.sz0⟩
def ann20 : Ann := ⟨[], [], 70, [(26, false)], [], none, [], []⟩
def kb20_0 (b0 b1 : Nat) (x0 x1 x3 x4 : Value) : List KB := [⟨b0, true, 40, #[x0, x1]⟩, ⟨b1, true, 40, #[x3, x4]⟩]
theorem vc20 (X : Ctx) (β : Nat → Nat) (x0 x1 x2 x3 x4 x5 : Value) : (run Try.prog ann20 20 [.l [.v 0, .v 1], .x (.v 2), .l [.v 3, .v 4], .x (.v 5)] [] [] 7).den X (env0 [x0, x1, x2, x3, x4, x5] X.w0) 7 β 0 (fun _ _ _ => False) = (
 AskNew X.w0 fun b0 =>
 AskNew X.w0 fun b1 =>
 Ask (rGen X.P (Op.makeFunc (Fn.func 27) #[] #[Operand.tmp 4, Operand.tmp 6]) 60 [(4, (.pointer (some ⟨b0, 0, none⟩))), (6, (.pointer (some ⟨b1, 0, none⟩)))]) fun x7 =>
 AskW X X.w0 [] (kb20_0 b0 b1 x0 x1 x3 x4) false 26 [x2, x5, x7] fun x8 w8 =>
 Ask (rExt X.P x8 0) fun x9 =>
 Ask (rExt X.P x8 1) fun x10 =>
 Ret X w8 [] (kb20_0 b0 b1 x0 x1 x3 x4) (.tuple #[x9, x10])) := by kernel_rfl
def cPMx : Contract := fnW (Cods.cons cPr (Cods.cons cLP (Cods.cons cPr (Cods.cons cLP Cods.nil)))) (fun p _ => p.2.1.length ≤ 1000 ∧ p.2.2.2.1.length = p.2.1.length) (fun p w v w' => ∃ x, v = .tuple #[x, J 0] ∧ w'.ownsRow w.heap.size 40 2 x p.2.1.length ((tabN (pR.mix p.1 p.2.1 p.2.2.1 p.2.2.2.1) p.2.1.length).flatMap encPr))
def TAq : Table := TA0.add 26 cPrs
theorem keepTAq : AllKeep Try.prog GA TAq := keepTA0.add keepsPrs
theorem keepsPMx : Keeps1 Try.prog GA 20 cPMx := by
  refine keepsW (T := TAq) (A := ann20) hMix keepTAq hGA (calls_of (by kernel_rfl)) (callsW_of (by kernel_rfl)) fun args ⟨x, a, y, b, _⟩ w0 hrd hpre _ => ?_
  obtain ⟨_, _, rfl, rfl, va, _, rfl, ha, _, _, rfl, rfl, vb, _, rfl, hb, rfl⟩ := hrd
  replace ha : LsP w0 va a := ha
  replace hb : LsP w0 vb b := hb
  dsimp only at hpre
  refine ⟨[.l [.v 0, .v 1], .x (.v 2), .l [.v 3, .v 4], .x (.v 5)], [], [], 7, env0 [.int .i64 x.1, .int .i64 x.2, va, .int .i64 y.1, .int .i64 y.2, vb] w0, fun b => b, 0, rfl, rfl, fun X hX => mem_none hX rfl, fun X hP hS hw hX hR => ?_⟩
  subst hw; try dsimp only at hR
  rw [vc20 X]
  intro b0 hb0 b1 hb1
  rw [ask_mkFn (ps := #[Ptw b0, Ptw b1]) (by simp [argsFn])]
  refine call_W hX hS (T := TAq) (f := 26) rfl (a, b, (x, y), ()) (fun w hw => ⟨⟨_, _, rfl, ha.stp0 hw.stp, _, _, rfl, hb.stp0 hw.stp, _, _, rfl, ⟨b0, b1, rfl, ⟨cellKb hw (List.mem_of_getElem? (i := 0) rfl) 0 rfl, cellKb hw (List.mem_of_getElem? (i := 0) rfl) 1 rfl⟩, ⟨cellKb hw (List.mem_of_getElem? (i := 1) rfl) 0 rfl, cellKb hw (List.mem_of_getElem? (i := 1) rfl) 1 rfl⟩⟩, rfl⟩, hpre⟩) fun v u4 w4 h4 k4 s4 su4 hv => ?_
  obtain ⟨z, rfl, ho⟩ := hv
  rw [ask_ext (v := z) rfl, ask_ext (v := J 0) rfl]
  exact hR _ _ _ _ fun w2 hw2 => ⟨z, rfl, own_mono (own_stp0 ho hw2.stp) h4.sz0⟩
#print axioms keepsPMx
