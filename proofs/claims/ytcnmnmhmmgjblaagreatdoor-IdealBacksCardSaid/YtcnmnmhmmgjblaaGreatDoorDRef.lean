/-
  The document's scalars (veilref02): contracts by numbers.
-/
import Derived.Test.YtcnmnmhmmgjblaaGreatDoorVcTac
import Derived.Test.YtcnmnmhmmgjblaaGreatDoorDLeast
namespace Go.Vc
open Go Go.Proofs Go.RowKit
theorem hGT : ∀ w0 w : World, GT w0 → (∀ b, b < w0.heap.size → w.heap[b]? = w0.heap[b]?) → w0.heap.size ≤ w.heap.size → GT w := fun _ _ h h1 h2 => h.stays h1 h2
theorem hMix : Tryz.prog.follows .mixedOrders = true := by kernel_rfl
def T0 : Table := fun _ => {}
theorem keepT0 : AllKeep Tryz.prog GT T0 := AllKeep.none _ _
theorem lN_val : lN = 7237005577332262213973186563042994240857116359379907606001950938285454250989 := by decide
abbrev enc2 (p : Nat × Nat) : List Value := [S p.1, S p.2]
abbrev dom2 (p : Nat × Nat) : Prop := p.1 < W256 ∧ p.2 < W256
theorem inj2 (a b : Nat × Nat) (ha : dom2 a) (hb : dom2 b) (h : enc2 a = enc2 b) : a = b := by
  simp only [enc2, List.cons.injEq, and_true] at h
  exact Prod.ext (S_inj ha.1 hb.1 h.1) (S_inj ha.2 hb.2 h.2)
def ann112 : Ann := ⟨[], [], 70, [], [], none, [], []⟩
theorem vc112 (X : Ctx) (β : Nat → Nat)  : (run Tryz.prog ann112 112 [] [] [] 1).den X (env0 [] X.w0) 1 β 0 (fun _ _ _ => False) = (
 AskNew X.w0 fun b0 =>
 Ret X X.w0 [b0] [] (.agg #[(U 6346243789798364141), (U 1503914060200516822), (U 0), (U 1152921504606846976)])) := by kernel_rfl
def cRl : Contract := fnP (fun _ : Unit => []) (fun _ => True) (fun _ v => v = S lN)
theorem keepsRl : Keeps1 Tryz.prog GT 112 cRl := by
  refine keepsP (T := T0) (A := ann112) (fun _ _ _ _ _ => rfl) hMix keepT0 hGT (fun f hf => by cases hf) (fun f hf => by cases hf) fun a w0 _ _ => ⟨[], [], [], 1, env0 [] w0, fun b => b, 0, rfl, rfl, fun X hX => mem_none hX rfl, fun X hP hS hw hX hR => ?_⟩
  subst hw
  rw [vc112 X]
  intro _ _
  refine hR _ _ _ _ ?_
  rw [lN_val]
  rfl
def ann114 : Ann := ⟨[], [], 70, [], [2, 3], none, [], []⟩
theorem vc114 (X : Ctx) (β : Nat → Nat) (x0 x1 : Value) : (run Tryz.prog ann114 114 [.x (.v 0), .x (.v 1)] [] [] 3).den X (env0 [x0, x1] X.w0) 3 β 0 (fun _ _ _ => False) = (
 Ask (rAgg 4 x0) fun x3 =>
 AskNew X.w0 fun _ =>
 Ask (rAgg 4 x1) fun x4 =>
 AskNew X.w0 fun _ =>
 Ask (rSel (aggArr x3) 3 1 false) fun x5 =>
 Ask (rSel (aggArr x4) 3 1 false) fun x6 =>
 Ask (rBin X.P .neq 22 false false x5 x6) fun x7 =>
 (∃ t, x7 = .bool t) ∧ (x7 = .bool true →
 Ask (rSel (aggArr x3) 3 1 false) fun x8 =>
 Ask (rSel (aggArr x4) 3 1 false) fun x9 =>
 Ask (rBin X.P .lss 22 false false x8 x9) fun x10 =>
 Ret X X.w0 [] [] x10) ∧ (x7 = .bool false →
 Ask (rSel (aggArr x3) 2 1 false) fun x8 =>
 Ask (rSel (aggArr x4) 2 1 false) fun x9 =>
 Ask (rBin X.P .neq 22 false false x8 x9) fun x10 =>
 (∃ t, x10 = .bool t) ∧ (x10 = .bool true →
 Ask (rSel (aggArr x3) 2 1 false) fun x11 =>
 Ask (rSel (aggArr x4) 2 1 false) fun x12 =>
 Ask (rBin X.P .lss 22 false false x11 x12) fun x13 =>
 Ret X X.w0 [] [] x13) ∧ (x10 = .bool false →
 Ask (rSel (aggArr x3) 1 1 false) fun x11 =>
 Ask (rSel (aggArr x4) 1 1 false) fun x12 =>
 Ask (rBin X.P .neq 22 false false x11 x12) fun x13 =>
 (∃ t, x13 = .bool t) ∧ (x13 = .bool true →
 Ask (rSel (aggArr x3) 1 1 false) fun x14 =>
 Ask (rSel (aggArr x4) 1 1 false) fun x15 =>
 Ask (rBin X.P .lss 22 false false x14 x15) fun x16 =>
 Ret X X.w0 [] [] x16) ∧ (x13 = .bool false →
 Ask (rSel (aggArr x3) 0 1 false) fun x14 =>
 Ask (rSel (aggArr x4) 0 1 false) fun x15 =>
 Ask (rBin X.P .neq 22 false false x14 x15) fun x16 =>
 (∃ t, x16 = .bool t) ∧ (x16 = .bool true →
 Ask (rSel (aggArr x3) 0 1 false) fun x17 =>
 Ask (rSel (aggArr x4) 0 1 false) fun x18 =>
 Ask (rBin X.P .lss 22 false false x17 x18) fun x19 =>
 Ret X X.w0 [] [] x19) ∧ (x16 = .bool false →
 Ret X X.w0 [] [] (.bool false)))))) := by kernel_rfl
def cRbelow : Contract := fnP enc2 dom2 (fun p v => v = .bool (decide (p.1 < p.2)))
theorem below_law {a b : Nat} (ha : a < W256) (hb : b < W256) : (lb a 3 ≠ lb b 3 → (a < b ↔ lb a 3 < lb b 3)) ∧ (lb a 3 = lb b 3 → lb a 2 ≠ lb b 2 → (a < b ↔ lb a 2 < lb b 2)) ∧
    (lb a 3 = lb b 3 → lb a 2 = lb b 2 → lb a 1 ≠ lb b 1 → (a < b ↔ lb a 1 < lb b 1)) ∧ (lb a 3 = lb b 3 → lb a 2 = lb b 2 → lb a 1 = lb b 1 → (a < b ↔ lb a 0 < lb b 0)) := by
  have h1 := limbs_sum a ha
  have h2 := limbs_sum b hb
  have a0 := lb_lt a 0; have a1 := lb_lt a 1; have a2 := lb_lt a 2; have a3 := lb_lt a 3
  have b0 := lb_lt b 0; have b1 := lb_lt b 1; have b2 := lb_lt b 2; have b3 := lb_lt b 3
  generalize lb a 0 = p0 at *; generalize lb a 1 = p1 at *; generalize lb a 2 = p2 at *; generalize lb a 3 = p3 at *
  generalize lb b 0 = q0 at *; generalize lb b 1 = q1 at *; generalize lb b 2 = q2 at *; generalize lb b 3 = q3 at *
  simp only [B64] at *
  refine ⟨fun h => ?_, fun h h' => ?_, fun h h' h'' => ?_, fun h h' h'' => ?_⟩ <;> omega
theorem keepsRbelow : Keeps1 Tryz.prog GT 114 cRbelow := by
  refine keepsP (T := T0) (A := ann114) inj2 hMix keepT0 hGT (fun f hf => by cases hf) (fun f hf => by cases hf) fun ⟨a, b⟩ w0 ⟨ha, hb⟩ _ => ⟨[.x (.v 0), .x (.v 1)], [], [], 3, env0 [S a, S b] w0, fun b => b, 0, rfl, rfl, fun X hX => mem_none hX rfl, fun X hP hS hw hX hR => ?_⟩
  subst hw; dsimp only at ha hb hR
  rw [vc114 X]
  obtain ⟨l3, l2, l1, l0⟩ := below_law ha hb
  have fin : ∀ {p : Prop} [Decidable p] {u ow bl}, ((a < b) ↔ p) → Ret X u ow bl (.bool (decide p)) := fun {p} _ {u ow bl} h => hR _ _ _ _ (by simp only [h])
  rw [ask_aggS]
  intro _ _
  rw [ask_aggS]
  intro _ _
  rw [ask_selS3, ask_selS3, ask_uneqN]
  refine a_ifN (fun h3 => by rw [ask_selS3, ask_selS3, ask_ulss]; exact fin (l3 h3)) fun h3 => ?_
  rw [ask_selS2, ask_selS2, ask_uneqN]
  refine a_ifN (fun h2 => by rw [ask_selS2, ask_selS2, ask_ulss]; exact fin (l2 h3 h2)) fun h2 => ?_
  rw [ask_selS1, ask_selS1, ask_uneqN]
  refine a_ifN (fun h1 => by rw [ask_selS1, ask_selS1, ask_ulss]; exact fin (l1 h3 h2 h1)) fun h1 => ?_
  rw [ask_selS0, ask_selS0, ask_uneqN]
  refine a_ifN (fun h0 => by rw [ask_selS0, ask_selS0, ask_ulss]; exact fin (l0 h3 h2 h1)) fun h0 => ?_
  have : ¬ a < b := fun h => by have := (l0 h3 h2 h1).1 h; omega
  exact hR _ _ _ _ (by simp only [this, decide_false])
def ann130 : Ann := ⟨[(4, ([7, 8], [3]))], [], 70, [], [2, 3, 4, 6], none, [], []⟩
def kb130_0 (b0 b1 b2 b3 : Nat) (x3 x4 x5 x6 : Value) : List KB := [⟨b0, true, 49, (aggArr x3)⟩, ⟨b1, true, 49, (aggArr x4)⟩, ⟨b2, true, 49, (aggArr x5)⟩, ⟨b3, true, 49, (aggArr x6)⟩]
theorem vc130 (X : Ctx) (β : Nat → Nat) (x0 x1 : Value) : (run Tryz.prog ann130 130 [.x (.v 0), .x (.v 1)] [] [] 3).den X (env0 [x0, x1] X.w0) 3 β 0 (fun _ _ _ => False) = (
 Ask (rAgg 4 x0) fun x3 =>
 AskNew X.w0 fun b0 =>
 Ask (rAgg 4 x1) fun x4 =>
 AskNew X.w0 fun b1 =>
 Ask (rAgg 4 (.agg #[(U 0), (U 0), (U 0), (U 0)])) fun x5 =>
 AskNew X.w0 fun b2 =>
 Ask (rAgg 4 (.agg #[(U 0), (U 0), (U 0), (U 0)])) fun x6 =>
 AskNew X.w0 fun b3 =>
 ∃ (I0 : List Value → World → Prop) (μ0 : List Value → World → Nat), (∀ w, KnownV X X.w0 [] (kb130_0 b0 b1 b2 b3 x3 x4 x5 x6) w → I0 [(U 0), (J 0), x6] w) ∧ ∀ x7 x8 x9 w10, I0 [x7, x8, x9] w10 →
 Ask (rBin X.P .lss 3 false true x8 (J 4)) fun x11 =>
 (∃ t, x11 = .bool t) ∧ (x11 = .bool true →
 Ask (rIx 4 x8) fun x12 =>
 Ask (rSel (aggArr x3) (0 + intNat x12 * 1) 1 false) fun x13 =>
 Ask (rIx 4 x8) fun x14 =>
 Ask (rSel (aggArr x4) (0 + intNat x14 * 1) 1 false) fun x15 =>
 Ask (rBin X.P .add 22 false false x13 x15) fun x16 =>
 Ask (rIx 4 x8) fun x17 =>
 Ask (rSel (aggArr x3) (0 + intNat x17 * 1) 1 false) fun x18 =>
 Ask (rBin X.P .lss 22 false false x16 x18) fun x19 =>
 (∃ t, x19 = .bool t) ∧ (x19 = .bool true →
 Ask (rBin X.P .add 22 false false x16 x7) fun x20 =>
 Ask (rBin X.P .lss 22 false false x20 x16) fun x21 =>
 (∃ t, x21 = .bool t) ∧ (x21 = .bool true →
 Ask (rIx 4 x8) fun x22 =>
 Ask (rUpd (aggArr x9) (0 + intNat x22 * 1) 1 x20) fun x23 =>
 Ask (rBin X.P .add 3 false true x8 (J 1)) fun x24 =>
 Again X w10 [b3] [] fun w => I0 [(U 1), x24, x23] w ∧ μ0 [(U 1), x24, x23] w < μ0 [x7, x8, x9] w10) ∧ (x21 = .bool false →
 Ask (rIx 4 x8) fun x22 =>
 Ask (rUpd (aggArr x9) (0 + intNat x22 * 1) 1 x20) fun x23 =>
 Ask (rBin X.P .add 3 false true x8 (J 1)) fun x24 =>
 Again X w10 [b3] [] fun w => I0 [(U 1), x24, x23] w ∧ μ0 [(U 1), x24, x23] w < μ0 [x7, x8, x9] w10)) ∧ (x19 = .bool false →
 Ask (rBin X.P .add 22 false false x16 x7) fun x20 =>
 Ask (rBin X.P .lss 22 false false x20 x16) fun x21 =>
 (∃ t, x21 = .bool t) ∧ (x21 = .bool true →
 Ask (rIx 4 x8) fun x22 =>
 Ask (rUpd (aggArr x9) (0 + intNat x22 * 1) 1 x20) fun x23 =>
 Ask (rBin X.P .add 3 false true x8 (J 1)) fun x24 =>
 Again X w10 [b3] [] fun w => I0 [(U 1), x24, x23] w ∧ μ0 [(U 1), x24, x23] w < μ0 [x7, x8, x9] w10) ∧ (x21 = .bool false →
 Ask (rIx 4 x8) fun x22 =>
 Ask (rUpd (aggArr x9) (0 + intNat x22 * 1) 1 x20) fun x23 =>
 Ask (rBin X.P .add 3 false true x8 (J 1)) fun x24 =>
 Again X w10 [b3] [] fun w => I0 [(U 0), x24, x23] w ∧ μ0 [(U 0), x24, x23] w < μ0 [x7, x8, x9] w10))) ∧ (x11 = .bool false →
 Ask (rAgg 4 x9) fun x12 =>
 Ret X w10 [b2] [] (.tuple #[x12, x7]))) := by kernel_rfl
def ann115 : Ann := ⟨[(4, ([7, 8], [3]))], [], 70, [], [2, 3, 4, 6], none, [], []⟩
def kb115_0 (b0 b1 b2 b3 : Nat) (x3 x4 x5 x6 : Value) : List KB := [⟨b0, true, 49, (aggArr x3)⟩, ⟨b1, true, 49, (aggArr x4)⟩, ⟨b2, true, 49, (aggArr x5)⟩, ⟨b3, true, 49, (aggArr x6)⟩]
theorem vc115 (X : Ctx) (β : Nat → Nat) (x0 x1 : Value) : (run Tryz.prog ann115 115 [.x (.v 0), .x (.v 1)] [] [] 3).den X (env0 [x0, x1] X.w0) 3 β 0 (fun _ _ _ => False) = (
 Ask (rAgg 4 x0) fun x3 =>
 AskNew X.w0 fun b0 =>
 Ask (rAgg 4 x1) fun x4 =>
 AskNew X.w0 fun b1 =>
 Ask (rAgg 4 (.agg #[(U 0), (U 0), (U 0), (U 0)])) fun x5 =>
 AskNew X.w0 fun b2 =>
 Ask (rAgg 4 (.agg #[(U 0), (U 0), (U 0), (U 0)])) fun x6 =>
 AskNew X.w0 fun b3 =>
 ∃ (I0 : List Value → World → Prop) (μ0 : List Value → World → Nat), (∀ w, KnownV X X.w0 [] (kb115_0 b0 b1 b2 b3 x3 x4 x5 x6) w → I0 [(U 0), (J 0), x6] w) ∧ ∀ x7 x8 x9 w10, I0 [x7, x8, x9] w10 →
 Ask (rBin X.P .lss 3 false true x8 (J 4)) fun x11 =>
 (∃ t, x11 = .bool t) ∧ (x11 = .bool true →
 Ask (rIx 4 x8) fun x12 =>
 Ask (rSel (aggArr x3) (0 + intNat x12 * 1) 1 false) fun x13 =>
 Ask (rIx 4 x8) fun x14 =>
 Ask (rSel (aggArr x4) (0 + intNat x14 * 1) 1 false) fun x15 =>
 Ask (rBin X.P .sub 22 false false x13 x15) fun x16 =>
 Ask (rIx 4 x8) fun x17 =>
 Ask (rSel (aggArr x3) (0 + intNat x17 * 1) 1 false) fun x18 =>
 Ask (rIx 4 x8) fun x19 =>
 Ask (rSel (aggArr x4) (0 + intNat x19 * 1) 1 false) fun x20 =>
 Ask (rBin X.P .lss 22 false false x18 x20) fun x21 =>
 (∃ t, x21 = .bool t) ∧ (x21 = .bool true →
 Ask (rBin X.P .sub 22 false false x16 x7) fun x22 =>
 Ask (rBin X.P .lss 22 false false x16 x7) fun x23 =>
 (∃ t, x23 = .bool t) ∧ (x23 = .bool true →
 Ask (rIx 4 x8) fun x24 =>
 Ask (rUpd (aggArr x9) (0 + intNat x24 * 1) 1 x22) fun x25 =>
 Ask (rBin X.P .add 3 false true x8 (J 1)) fun x26 =>
 Again X w10 [b3] [] fun w => I0 [(U 1), x26, x25] w ∧ μ0 [(U 1), x26, x25] w < μ0 [x7, x8, x9] w10) ∧ (x23 = .bool false →
 Ask (rIx 4 x8) fun x24 =>
 Ask (rUpd (aggArr x9) (0 + intNat x24 * 1) 1 x22) fun x25 =>
 Ask (rBin X.P .add 3 false true x8 (J 1)) fun x26 =>
 Again X w10 [b3] [] fun w => I0 [(U 1), x26, x25] w ∧ μ0 [(U 1), x26, x25] w < μ0 [x7, x8, x9] w10)) ∧ (x21 = .bool false →
 Ask (rBin X.P .sub 22 false false x16 x7) fun x22 =>
 Ask (rBin X.P .lss 22 false false x16 x7) fun x23 =>
 (∃ t, x23 = .bool t) ∧ (x23 = .bool true →
 Ask (rIx 4 x8) fun x24 =>
 Ask (rUpd (aggArr x9) (0 + intNat x24 * 1) 1 x22) fun x25 =>
 Ask (rBin X.P .add 3 false true x8 (J 1)) fun x26 =>
 Again X w10 [b3] [] fun w => I0 [(U 1), x26, x25] w ∧ μ0 [(U 1), x26, x25] w < μ0 [x7, x8, x9] w10) ∧ (x23 = .bool false →
 Ask (rIx 4 x8) fun x24 =>
 Ask (rUpd (aggArr x9) (0 + intNat x24 * 1) 1 x22) fun x25 =>
 Ask (rBin X.P .add 3 false true x8 (J 1)) fun x26 =>
 Again X w10 [b3] [] fun w => I0 [(U 0), x26, x25] w ∧ μ0 [(U 0), x26, x25] w < μ0 [x7, x8, x9] w10))) ∧ (x11 = .bool false →
 Ask (rAgg 4 x9) fun x12 =>
 Ret X w10 [b2] [] (.tuple #[x12, x7]))) := by kernel_rfl
def cRplus : Contract := fnP enc2 dom2 (fun p v => v = .tuple #[S ((p.1 + p.2) % W256), U ((p.1 + p.2) / W256)])
theorem plus_step {a b c o k : Nat} (hk : k < 4) (hc : c ≤ 1) (ho : o < B64 ^ k) (h : o + c * B64 ^ k = a % B64 ^ k + b % B64 ^ k) : ∃ t c', t < B64 ∧ c' ≤ 1 ∧ ((lb a k + lb b k) % B64 + c) % B64 = t ∧
    (¬ ((lb a k + lb b k) % B64 < lb a k) → ¬ (t < (lb a k + lb b k) % B64) → c' = 0) ∧ (((lb a k + lb b k) % B64 < lb a k) ∨ (t < (lb a k + lb b k) % B64) → c' = 1) ∧
    o + t * B64 ^ k < B64 ^ (k + 1) ∧ (o + t * B64 ^ k) + c' * B64 ^ (k + 1) = a % B64 ^ (k + 1) + b % B64 ^ (k + 1) := by
  rw [mod_lb a k, mod_lb b k]
  have hx := lb_lt a k
  have hy := lb_lt b k
  generalize lb a k = x at *
  generalize lb b k = y at *
  generalize a % B64 ^ k = p at *
  generalize b % B64 ^ k = q at *
  refine ⟨_, (x + y + c) / B64, Nat.mod_lt _ (by decide), ?_, rfl, ?_, ?_, ?_, ?_⟩
  · simp only [B64] at *; omega
  · simp only [B64] at *; omega
  · simp only [B64] at *; omega
  · simp only [B64] at *
    match k, hk with
    | 0, _ | 1, _ | 2, _ | 3, _ => simp at *; omega
  · simp only [B64] at *
    match k, hk with
    | 0, _ | 1, _ | 2, _ | 3, _ => simp at *; omega
theorem keepsRplus : Keeps1 Tryz.prog GT 130 cRplus := by
  refine keepsP (T := T0) (A := ann130) inj2 hMix keepT0 hGT (fun f hf => by cases hf) (fun f hf => by cases hf) fun ⟨a, b⟩ w0 ⟨ha, hb⟩ _ => ⟨[.x (.v 0), .x (.v 1)], [], [], 3, env0 [S a, S b] w0, fun b => b, 0, rfl, rfl, fun X hX => mem_none hX rfl, fun X hP hS hw hX hR => ?_⟩
  subst hw; dsimp only at ha hb hR
  rw [vc130 X]
  rw [ask_aggS]; intro _ _; rw [ask_aggS]; intro _ _; rw [ask_zero4]; intro _ _; rw [ask_zero4]; intro _ _
  refine ⟨fun l _ => ∃ k c o : Nat, l = [U c, .int .i64 k, S o] ∧ k ≤ 4 ∧ c ≤ 1 ∧ o < B64 ^ k ∧ o + c * B64 ^ k = a % B64 ^ k + b % B64 ^ k, fun l _ => match l with | [_, i, _] => 4 - intNat i | _ => 0, fun w _ => ⟨0, 0, 0, rfl, by omega, by omega, by simp, by simp [Nat.mod_one]⟩, ?_⟩
  rintro _ _ _ w ⟨k, c, o, he, hk, hc, ho, h⟩
  simp only [List.cons.injEq, and_true] at he
  obtain ⟨rfl, rfl, rfl⟩ := he
  rw [ask_lssN]
  refine a_ifD (fun hlt => ?_) fun hge => ?_
  · obtain ⟨t, c', ht, hc', e, n0, n1, h1, h2⟩ := plus_step hlt hc ho h
    have nx : ∀ {d : Nat}, d = c' → (∃ k' c o' : Nat, [U d, .int .i64 ((k + 1 : Nat) : Int), S (o + t * B64 ^ k)] = [U c, .int .i64 k', S o'] ∧ k' ≤ 4 ∧ c ≤ 1 ∧ o' < B64 ^ k' ∧ o' + c * B64 ^ k' = a % B64 ^ k' + b % B64 ^ k') ∧ 4 - intNat (.int .i64 ((k + 1 : Nat) : Int)) < 4 - intNat (.int .i64 (k : Int)) := fun {d} hd =>
      ⟨⟨k + 1, c', o + t * B64 ^ k, by rw [hd], by omega, hc', h1, h2⟩, by simp only [intNat]; omega⟩
    rw [ask_ixN hlt, ask_selSk hlt, ask_ixN hlt, ask_selSk hlt, ask_uadd, ask_ixN hlt, ask_selSk hlt, ask_ulss]
    refine a_ifD (fun h3 => ?_) fun h3 => ?_ <;> rw [ask_uadd, e, ask_ulss] <;> refine a_ifD (fun h4 => ?_) fun h4 => ?_ <;> rw [ask_ixN hlt, ask_updS ho ht hlt, ask_succ (by omega)] <;> intro _ _
    · exact nx (n1 (.inl h3)).symm
    · exact nx (n1 (.inl h3)).symm
    · exact nx (n1 (.inr h4)).symm
    · exact nx (n0 h3 h4).symm
  · obtain rfl : k = 4 := by omega
    rw [ask_aggS]
    refine hR _ _ _ _ ?_
    rw [← W256_eq, Nat.mod_eq_of_lt ha, Nat.mod_eq_of_lt hb] at h
    rw [← W256_eq] at ho
    rw [← h, Nat.add_mul_mod_self_right, Nat.mod_eq_of_lt ho, Nat.add_mul_div_right _ _ (by decide), Nat.div_eq_of_lt ho, Nat.zero_add]
def cRminus : Contract := fnP enc2 dom2 (fun p v => v = .tuple #[S ((p.1 + W256 - p.2) % W256), U (if p.1 < p.2 then 1 else 0)])
theorem minus_step {a b c o k : Nat} (hk : k < 4) (hc : c ≤ 1) (ho : o < B64 ^ k) (h : o + b % B64 ^ k = a % B64 ^ k + c * B64 ^ k) : ∃ t c', t < B64 ∧ c' ≤ 1 ∧ ((lb a k + B64 - lb b k) % B64 + B64 - c) % B64 = t ∧
    (¬ (lb a k < lb b k) → ¬ ((lb a k + B64 - lb b k) % B64 < c) → c' = 0) ∧ ((lb a k < lb b k) ∨ ((lb a k + B64 - lb b k) % B64 < c) → c' = 1) ∧
    o + t * B64 ^ k < B64 ^ (k + 1) ∧ (o + t * B64 ^ k) + b % B64 ^ (k + 1) = a % B64 ^ (k + 1) + c' * B64 ^ (k + 1) := by
  rw [mod_lb a k, mod_lb b k]
  have hx := lb_lt a k
  have hy := lb_lt b k
  generalize lb a k = x at *
  generalize lb b k = y at *
  generalize a % B64 ^ k = p at *
  generalize b % B64 ^ k = q at *
  refine ⟨_, if x < y + c then 1 else 0, Nat.mod_lt _ (by decide), ?_, rfl, ?_, ?_, ?_, ?_⟩
  · split <;> omega
  · simp only [B64] at *; intro _ _; rw [if_neg (by omega)]
  · simp only [B64] at *; intro _; rw [if_pos (by omega)]
  · simp only [B64] at *
    match k, hk with
    | 0, _ | 1, _ | 2, _ | 3, _ => simp at *; omega
  · simp only [B64] at *
    match k, hk with
    | 0, _ | 1, _ | 2, _ | 3, _ => simp at *; split <;> omega
theorem keepsRminus : Keeps1 Tryz.prog GT 115 cRminus := by
  refine keepsP (T := T0) (A := ann115) inj2 hMix keepT0 hGT (fun f hf => by cases hf) (fun f hf => by cases hf) fun ⟨a, b⟩ w0 ⟨ha, hb⟩ _ => ⟨[.x (.v 0), .x (.v 1)], [], [], 3, env0 [S a, S b] w0, fun b => b, 0, rfl, rfl, fun X hX => mem_none hX rfl, fun X hP hS hw hX hR => ?_⟩
  subst hw; dsimp only at ha hb hR
  rw [vc115 X]
  rw [ask_aggS]; intro _ _; rw [ask_aggS]; intro _ _; rw [ask_zero4]; intro _ _; rw [ask_zero4]; intro _ _
  refine ⟨fun l _ => ∃ k c o : Nat, l = [U c, .int .i64 k, S o] ∧ k ≤ 4 ∧ c ≤ 1 ∧ o < B64 ^ k ∧ o + b % B64 ^ k = a % B64 ^ k + c * B64 ^ k, fun l _ => match l with | [_, i, _] => 4 - intNat i | _ => 0, fun w _ => ⟨0, 0, 0, rfl, by omega, by omega, by simp, by simp [Nat.mod_one]⟩, ?_⟩
  rintro _ _ _ w ⟨k, c, o, he, hk, hc, ho, h⟩
  simp only [List.cons.injEq, and_true] at he
  obtain ⟨rfl, rfl, rfl⟩ := he
  rw [ask_lssN]
  refine a_ifD (fun hlt => ?_) fun hge => ?_
  · obtain ⟨t, c', ht, hc', e, n0, n1, h1, h2⟩ := minus_step hlt hc ho h
    have nx : ∀ {d : Nat}, d = c' → (∃ k' c o' : Nat, [U d, .int .i64 ((k + 1 : Nat) : Int), S (o + t * B64 ^ k)] = [U c, .int .i64 k', S o'] ∧ k' ≤ 4 ∧ c ≤ 1 ∧ o' < B64 ^ k' ∧ o' + b % B64 ^ k' = a % B64 ^ k' + c * B64 ^ k') ∧ 4 - intNat (.int .i64 ((k + 1 : Nat) : Int)) < 4 - intNat (.int .i64 (k : Int)) := fun {d} hd =>
      ⟨⟨k + 1, c', o + t * B64 ^ k, by rw [hd], by omega, hc', h1, h2⟩, by simp only [intNat]; omega⟩
    rw [ask_ixN hlt, ask_selSk hlt, ask_ixN hlt, ask_selSk hlt, ask_usub (lb_lt _ _), ask_ixN hlt, ask_selSk hlt, ask_ixN hlt, ask_selSk hlt, ask_ulss]
    refine a_ifD (fun h3 => ?_) fun h3 => ?_ <;> rw [ask_usub (by simp only [B64]; omega), e, ask_ulss] <;> refine a_ifD (fun h4 => ?_) fun h4 => ?_ <;> rw [ask_ixN hlt, ask_updS ho ht hlt, ask_succ (by omega)] <;> intro _ _
    · exact nx (n1 (.inl h3)).symm
    · exact nx (n1 (.inl h3)).symm
    · exact nx (n1 (.inr h4)).symm
    · exact nx (n0 h3 h4).symm
  · obtain rfl : k = 4 := by omega
    rw [ask_aggS]
    refine hR _ _ _ _ ?_
    rw [← W256_eq, Nat.mod_eq_of_lt ha, Nat.mod_eq_of_lt hb] at h
    rw [← W256_eq] at ho
    have h5 : c = if a < b then 1 else 0 := by simp only [W256] at *; split <;> omega
    have h6 : o = (a + W256 - b) % W256 := by simp only [W256] at *; omega
    rw [h5, h6]
/-! ### sixteen bits more -/
def ann118 : Ann := ⟨[], [112, 114, 130, 115], 70, [], [], none, [], []⟩
theorem vc118 (X : Ctx) (β : Nat → Nat) (x0 x1 x2 x3 x4 : Value) : (run Tryz.prog ann118 118 [.l [.v 0, .v 1, .v 2, .v 3], .x (.v 4)] [] [] 6).den X (env0 [x0, x1, x2, x3, x4] X.w0) 6 β 0 (fun _ _ _ => False) = (
 AskNew X.w0 fun _ =>
 AskNew X.w0 fun b1 =>
 Ask (rBin X.P .shr 22 false true x3 (U 44)) fun x6 =>
 AskNew X.w0 fun b2 =>
 Ask (rBin X.P .shl 22 false true x0 (U 16)) fun x7 =>
 Ask (rBin X.P .or 22 false false x7 x4) fun x8 =>
 Ask (rPlain x8) fun x9 =>
 Ask (rBin X.P .shl 22 false true x1 (U 16)) fun x10 =>
 Ask (rBin X.P .shr 22 false true x0 (U 48)) fun x11 =>
 Ask (rBin X.P .or 22 false false x10 x11) fun x12 =>
 Ask (rPlain x12) fun x13 =>
 Ask (rBin X.P .shl 22 false true x2 (U 16)) fun x14 =>
 Ask (rBin X.P .shr 22 false true x1 (U 48)) fun x15 =>
 Ask (rBin X.P .or 22 false false x14 x15) fun x16 =>
 Ask (rPlain x16) fun x17 =>
 Ask (rBin X.P .shl 22 false true x3 (U 16)) fun x18 =>
 Ask (rBin X.P .shr 22 false true x2 (U 48)) fun x19 =>
 Ask (rBin X.P .or 22 false false x18 x19) fun x20 =>
 Ask (rPlain x20) fun x21 =>
 Ask (rBin X.P .and 22 false true x21 (U 1152921504606846975)) fun x22 =>
 Ask (rPlain x22) fun x23 =>
 AskF X 112 [] fun x24 =>
 AskNew X.w0 fun b3 =>
 Ask (rAgg 4 x24) fun x25 =>
 Ask (rSel (aggArr x25) 0 1 false) fun x26 =>
 Ask (rSel (aggArr x25) 1 1 false) fun x27 =>
 Ask (rSel (aggArr x25) 2 1 false) fun x28 =>
 Ask (rSel (aggArr x25) 3 1 false) fun x29 =>
 Ask (rBin X.P .and 22 false true x26 (U 4294967295)) fun x30 =>
 Ask (rBin X.P .shr 22 false true x26 (U 32)) fun x31 =>
 Ask (rBin X.P .and 22 false true x27 (U 4294967295)) fun x32 =>
 Ask (rBin X.P .shr 22 false true x27 (U 32)) fun x33 =>
 Ask (rPlain x30) fun x34 =>
 Ask (rPlain x31) fun x35 =>
 Ask (rPlain x32) fun x36 =>
 Ask (rPlain x33) fun x37 =>
 AskNew X.w0 fun b4 =>
 Ask (rPlain x34) fun x38 =>
 Ask (rPlain x35) fun x39 =>
 Ask (rPlain x36) fun x40 =>
 Ask (rPlain x37) fun x41 =>
 Ask (rBin X.P .mul 22 false false x38 x6) fun x42 =>
 Ask (rBin X.P .add 22 false false x42 (U 0)) fun x43 =>
 Ask (rBin X.P .and 22 false true x43 (U 4294967295)) fun x44 =>
 Ask (rPlain x44) fun x45 =>
 Ask (rBin X.P .shr 22 false true x43 (U 32)) fun x46 =>
 Ask (rBin X.P .mul 22 false false x39 x6) fun x47 =>
 Ask (rBin X.P .add 22 false false x47 x46) fun x48 =>
 Ask (rBin X.P .and 22 false true x48 (U 4294967295)) fun x49 =>
 Ask (rPlain x49) fun x50 =>
 Ask (rBin X.P .shr 22 false true x48 (U 32)) fun x51 =>
 Ask (rBin X.P .mul 22 false false x40 x6) fun x52 =>
 Ask (rBin X.P .add 22 false false x52 x51) fun x53 =>
 Ask (rBin X.P .and 22 false true x53 (U 4294967295)) fun x54 =>
 Ask (rPlain x54) fun x55 =>
 Ask (rBin X.P .shr 22 false true x53 (U 32)) fun x56 =>
 Ask (rBin X.P .mul 22 false false x41 x6) fun x57 =>
 Ask (rBin X.P .add 22 false false x57 x56) fun x58 =>
 Ask (rBin X.P .and 22 false true x58 (U 4294967295)) fun x59 =>
 Ask (rPlain x59) fun x60 =>
 Ask (rBin X.P .shr 22 false true x58 (U 32)) fun x61 =>
 Ask (rBin X.P .shl 22 false true x50 (U 32)) fun x62 =>
 Ask (rBin X.P .or 22 false false x45 x62) fun x63 =>
 Ask (rBin X.P .shl 22 false true x60 (U 32)) fun x64 =>
 Ask (rBin X.P .or 22 false false x55 x64) fun x65 =>
 Ask (rPlain x63) fun x66 =>
 Ask (rPlain x65) fun x67 =>
 Ask (rPlain x61) fun x68 =>
 AskNew X.w0 fun b5 =>
 Ask (rPlain x66) fun x69 =>
 Ask (rPlain x67) fun x70 =>
 Ask (rPlain x68) fun x71 =>
 AskF X 115 [(.agg #[x9, x13, x17, x23]), (.agg #[x69, x70, x71, (U 0)])] fun x72 =>
 Ask (rExt X.P x72 0) fun x73 =>
 Ask (rExt X.P x72 1) fun x74 =>
 AskNew X.w0 fun b6 =>
 Ask (rAgg 4 x73) fun x75 =>
 Ask (rSel (aggArr x75) 0 1 false) fun x76 =>
 Ask (rSel (aggArr x75) 1 1 false) fun x77 =>
 Ask (rSel (aggArr x75) 2 1 false) fun x78 =>
 Ask (rSel (aggArr x75) 3 1 false) fun x79 =>
 Ask (rBin X.P .eql 22 false true x74 (U 1)) fun x80 =>
 (∃ t, x80 = .bool t) ∧ (x80 = .bool true →
 AskF X 130 [(.agg #[x76, x77, x78, x79]), (.agg #[x26, x27, x28, x29])] fun x81 =>
 Ask (rExt X.P x81 0) fun x82 =>
 Ask (rExt X.P x81 1) fun _ =>
 Ask (rAgg 4 x82) fun x84 =>
 Ask (rSel (aggArr x84) 0 1 false) fun x85 =>
 Ask (rSel (aggArr x84) 1 1 false) fun x86 =>
 Ask (rSel (aggArr x84) 2 1 false) fun x87 =>
 Ask (rSel (aggArr x84) 3 1 false) fun x88 =>
 AskF X 114 [(.agg #[x85, x86, x87, x88]), (.agg #[x26, x27, x28, x29])] fun x89 =>
 Ask (rUn X.P .not x89) fun x90 =>
 (∃ t, x90 = .bool t) ∧ (x90 = .bool true →
 AskF X 115 [(.agg #[x85, x86, x87, x88]), (.agg #[x26, x27, x28, x29])] fun x91 =>
 Ask (rExt X.P x91 0) fun x92 =>
 Ask (rExt X.P x91 1) fun _ =>
 Ask (rAgg 4 x92) fun x94 =>
 Ask (rSel (aggArr x94) 0 1 false) fun x95 =>
 Ask (rSel (aggArr x94) 1 1 false) fun x96 =>
 Ask (rSel (aggArr x94) 2 1 false) fun x97 =>
 Ask (rSel (aggArr x94) 3 1 false) fun x98 =>
 Ask (rPlain x95) fun x99 =>
 Ask (rPlain x96) fun x100 =>
 Ask (rPlain x97) fun x101 =>
 Ask (rPlain x98) fun x102 =>
 Ret X X.w0 [b1, b6, b6, b6, b5, b4, b4, b4, b4, b4, b3, b2, b2, b2, b2, b2] [] (.agg #[x99, x100, x101, x102])) ∧ (x90 = .bool false →
 Ask (rPlain x85) fun x91 =>
 Ask (rPlain x86) fun x92 =>
 Ask (rPlain x87) fun x93 =>
 Ask (rPlain x88) fun x94 =>
 Ret X X.w0 [b1, b6, b6, b5, b4, b4, b4, b4, b4, b3, b2, b2, b2, b2, b2] [] (.agg #[x91, x92, x93, x94]))) ∧ (x80 = .bool false →
 AskF X 114 [(.agg #[x76, x77, x78, x79]), (.agg #[x26, x27, x28, x29])] fun x81 =>
 Ask (rUn X.P .not x81) fun x82 =>
 (∃ t, x82 = .bool t) ∧ (x82 = .bool true →
 AskF X 115 [(.agg #[x76, x77, x78, x79]), (.agg #[x26, x27, x28, x29])] fun x83 =>
 Ask (rExt X.P x83 0) fun x84 =>
 Ask (rExt X.P x83 1) fun _ =>
 Ask (rAgg 4 x84) fun x86 =>
 Ask (rSel (aggArr x86) 0 1 false) fun x87 =>
 Ask (rSel (aggArr x86) 1 1 false) fun x88 =>
 Ask (rSel (aggArr x86) 2 1 false) fun x89 =>
 Ask (rSel (aggArr x86) 3 1 false) fun x90 =>
 Ask (rPlain x87) fun x91 =>
 Ask (rPlain x88) fun x92 =>
 Ask (rPlain x89) fun x93 =>
 Ask (rPlain x90) fun x94 =>
 Ret X X.w0 [b1, b6, b6, b5, b4, b4, b4, b4, b4, b3, b2, b2, b2, b2, b2] [] (.agg #[x91, x92, x93, x94])) ∧ (x82 = .bool false →
 Ask (rPlain x76) fun x83 =>
 Ask (rPlain x77) fun x84 =>
 Ask (rPlain x78) fun x85 =>
 Ask (rPlain x79) fun x86 =>
 Ret X X.w0 [b1, b6, b5, b4, b4, b4, b4, b4, b3, b2, b2, b2, b2, b2] [] (.agg #[x83, x84, x85, x86])))) := by kernel_rfl
def T2r : Table := (((T0.add 112 cRl).add 114 cRbelow).add 130 cRplus).add 115 cRminus
theorem keepT2r : AllKeep Tryz.prog GT T2r := (((keepT0.add keepsRl).add keepsRbelow).add keepsRplus).add keepsRminus
abbrev encSU (p : Nat × Nat) : List Value := [S p.1, U p.2]
def cRstep : Contract := fnP encSU (fun p => p.1 < lN ∧ p.2 < 65536) (fun p v => v = S ((65536 * p.1 + p.2) % lN))
abbrev cc : Nat := 27742317777372353535851937790883648493
theorem low_law {r0 r1 r2 r3 w : Nat} (h0 : r0 < B64) (h1 : r1 < B64) (h2 : r2 < B64) (h3 : r3 < 2305843009213693952) (hw : w < 65536) : ∃ q l0 l1 l2 l3, r3 / 2 ^ 44 = q ∧ r0 * 2 ^ 16 % B64 + w = l0 ∧ r1 * 2 ^ 16 % B64 + r0 / 2 ^ 48 = l1 ∧
    r2 * 2 ^ 16 % B64 + r1 / 2 ^ 48 = l2 ∧ (r3 * 2 ^ 16 % B64 + r2 / 2 ^ 48) % 2 ^ 60 = l3 ∧ q < 131072 ∧ l0 < B64 ∧ l1 < B64 ∧ l2 < B64 ∧ l3 < B64 ∧
    l0 + B64 * l1 + B64 ^ 2 * l2 + B64 ^ 3 * l3 < 2 ^ 252 ∧ q * 2 ^ 252 + (l0 + B64 * l1 + B64 ^ 2 * l2 + B64 ^ 3 * l3) = 65536 * (r0 + B64 * r1 + B64 ^ 2 * r2 + B64 ^ 3 * r3) + w := by
  simp only [B64] at *
  refine ⟨_, _, _, _, _, rfl, rfl, rfl, rfl, rfl, ?_, ?_, ?_, ?_, ?_, ?_, ?_⟩ <;> omega
theorem piece {m q c : Nat} (hm : m < 4294967296) (hq : q < 131072) (hc : c < 131072) : ∃ k c', (m * q % B64 + c) % B64 % 2 ^ 32 = k ∧ (m * q % B64 + c) % B64 / 2 ^ 32 = c' ∧ k < 4294967296 ∧ c' < 131072 ∧ k + 4294967296 * c' = m * q + c := by
  have h : m * q ≤ 4294967295 * 131071 := Nat.mul_le_mul (by omega) (by omega)
  generalize m * q = z at *
  simp only [B64]
  exact ⟨_, _, rfl, rfl, by omega, by omega, by omega⟩
theorem qc_law2 {q : Nat} (hq : q < 131072) : ∃ k0 c0 k1 c1 k2 c2 k3 c3, (1559614445 * q % B64 + 0) % B64 % 2 ^ 32 = k0 ∧ (1559614445 * q % B64 + 0) % B64 / 2 ^ 32 = c0 ∧ (1477600026 * q % B64 + c0) % B64 % 2 ^ 32 = k1 ∧ (1477600026 * q % B64 + c0) % B64 / 2 ^ 32 = c1 ∧
    (2734136534 * q % B64 + c1) % B64 % 2 ^ 32 = k2 ∧ (2734136534 * q % B64 + c1) % B64 / 2 ^ 32 = c2 ∧ (350157278 * q % B64 + c2) % B64 % 2 ^ 32 = k3 ∧ (350157278 * q % B64 + c2) % B64 / 2 ^ 32 = c3 ∧
    k0 < 4294967296 ∧ k1 < 4294967296 ∧ k2 < 4294967296 ∧ k3 < 4294967296 ∧ c3 < B64 ∧ k0 + k1 * 2 ^ 32 % B64 < B64 ∧ k2 + k3 * 2 ^ 32 % B64 < B64 ∧ (k0 + k1 * 2 ^ 32 % B64) + B64 * (k2 + k3 * 2 ^ 32 % B64) + B64 ^ 2 * c3 + B64 ^ 3 * 0 = q * cc := by
  obtain ⟨k0, c0, e0, f0, g0, h0, s0⟩ := piece (m := 1559614445) (by decide) hq (show 0 < 131072 by decide)
  obtain ⟨k1, c1, e1, f1, g1, h1, s1⟩ := piece (m := 1477600026) (by decide) hq h0
  obtain ⟨k2, c2, e2, f2, g2, h2, s2⟩ := piece (m := 2734136534) (by decide) hq h1
  obtain ⟨k3, c3, e3, f3, g3, h3, s3⟩ := piece (m := 350157278) (by decide) hq h2
  refine ⟨k0, c0, k1, c1, k2, c2, k3, c3, e0, f0, e1, f1, e2, f2, e3, f3, g0, g1, g2, g3, ?_, ?_, ?_, ?_⟩ <;> (clear e0 f0 e1 f1 e2 f2 e3 f3; simp only [B64, cc] at *; (try rw [Nat.mod_eq_of_lt (show k1 * 2 ^ 32 < 18446744073709551616 by omega)]); (try rw [Nat.mod_eq_of_lt (show k3 * 2 ^ 32 < 18446744073709551616 by omega)]); omega)
theorem step_lin {n q low Q M c L : Nat} (hL : L = M + c) (h : q * M + low = n) (hQ : q * c = Q) (hlow : low < M) (hQL : Q < L) : (low < Q → low + L - Q < L ∧ n % L = low + L - Q) ∧ (¬ low < Q → low - Q < L ∧ n % L = low - Q) := by
  have e : q * L = q * M + Q := by rw [hL, Nat.mul_add, hQ]
  refine ⟨fun hlt => ⟨by omega, ?_⟩, fun hge => ⟨by omega, ?_⟩⟩
  · have hq : 0 < q := by
      rcases Nat.eq_zero_or_pos q with h0 | h0
      · subst h0; rw [Nat.zero_mul] at hQ; omega
      · exact h0
    obtain ⟨k, rfl⟩ : ∃ k, q = k + 1 := ⟨q - 1, by omega⟩
    have : n = (low + L - Q) + L * k := by
      have e2 : (k + 1) * L = L * k + L := by rw [Nat.add_mul, Nat.one_mul, Nat.mul_comm]
      omega
    rw [this, Nat.add_mul_mod_self_left]
    exact Nat.mod_eq_of_lt (by omega)
  · have : n = (low - Q) + L * q := by rw [Nat.mul_comm L q]; omega
    rw [this, Nat.add_mul_mod_self_left]
    exact Nat.mod_eq_of_lt (by omega)
theorem lb_l : lb lN 0 = 6346243789798364141 ∧ lb lN 1 = 1503914060200516822 ∧ lb lN 2 = 0 ∧ lb lN 3 = 1152921504606846976 := by decide
theorem lN_lt : lN < W256 := by decide
theorem keepsRstep : Keeps1 Tryz.prog GT 118 cRstep := by
  refine keepsP (T := T2r) (A := ann118) (fun p q hp hq h => by
    simp only [encSU, List.cons.injEq, and_true] at h
    exact Prod.ext (S_inj (Nat.lt_trans hp.1 lN_lt) (Nat.lt_trans hq.1 lN_lt) h.1) (U_inj' h.2)) hMix keepT2r hGT (fun f hf => by
      simp only [ann118, List.mem_cons, List.not_mem_nil, or_false] at hf
      rcases hf with rfl | rfl | rfl | rfl <;> intros <;> kernel_rfl) (fun f hf => by cases hf) fun ⟨r, w⟩ w0 ⟨hr, hw16⟩ _ => ⟨[.l [.v 0, .v 1, .v 2, .v 3], .x (.v 4)], [], [], 6, env0 [U (lb r 0), U (lb r 1), U (lb r 2), U (lb r 3), U w] w0, fun b => b, 0, rfl, rfl, fun X hX => mem_none hX rfl, fun X hP hS hw hX hR => ?_⟩
  subst hw; dsimp only at hr hw16 hR
  have hrW : r < W256 := Nat.lt_trans hr lN_lt
  have hsum := limbs_sum r hrW
  have g0 := lb_lt r 0; have g1 := lb_lt r 1; have g2 := lb_lt r 2
  have g3 : lb r 3 < 2305843009213693952 := by
    unfold lb; rw [lN_val] at hr; simp only [B64]; omega
  rw [vc118 X]
  generalize lb r 0 = r0 at *; generalize lb r 1 = r1 at *; generalize lb r 2 = r2 at *; generalize lb r 3 = r3 at *
  obtain ⟨q, l0, l1, l2, l3, eq, e0, e1, e2, e3, hq, b0, b1, b2, b3, hlow, hn⟩ := low_law g0 g1 g2 g3 hw16
  obtain ⟨k0, c0, k1, c1, k2, c2, k3, c3, ek0, ec0, ek1, ec1, ek2, ec2, ek3, ec3, hk0, hk1, hk2, hk3, hc3, hs0, hs1, hqc⟩ := qc_law2 hq
  rw [hsum] at hn
  intro _ _ _ _
  rw [ask_ushrU (by omega), eq]
  intro _ _
  rw [ask_ushlU (by omega), ask_uorU 16 (by simp only [B64]; omega) (by simp only [B64]; omega) hw16 (by simp only [B64]; omega), e0, ask_uplain]
  rw [ask_ushlU (by omega), ask_ushrU (by omega), ask_uorU 16 (by simp only [B64]; omega) (by simp only [B64]; omega) (by simp only [B64] at *; omega) (by simp only [B64] at *; omega), e1, ask_uplain]
  rw [ask_ushlU (by omega), ask_ushrU (by omega), ask_uorU 16 (by simp only [B64]; omega) (by simp only [B64]; omega) (by simp only [B64] at *; omega) (by simp only [B64] at *; omega), e2, ask_uplain]
  rw [ask_ushlU (by omega), ask_ushrU (by omega), ask_uorU 16 (by simp only [B64]; omega) (by simp only [B64]; omega) (by simp only [B64] at *; omega) (by simp only [B64] at *; omega), ask_uplain,
    ask_umask (k := 60) (by simp only [B64] at *; omega) (by decide) (by decide), e3, ask_uplain]
  refine call_PE hS (T := T2r) (f := 112) rfl () trivial ?_
  intro _ _
  rw [ask_aggS, ask_selS0, ask_selS1, ask_selS2, ask_selS3, lb_l.1, lb_l.2.1, lb_l.2.2.1, lb_l.2.2.2]
  rw [ask_umask (k := 32) (by decide) (by decide) (by decide), ask_ushrU (by omega), ask_umask (k := 32) (by decide) (by decide) (by decide), ask_ushrU (by omega), ask_uplain, ask_uplain, ask_uplain, ask_uplain]
  intro _ _
  rw [ask_uplain, ask_uplain, ask_uplain, ask_uplain]
  rw [show 6346243789798364141 % 2 ^ 32 = 1559614445 from rfl, show 6346243789798364141 / 2 ^ 32 = 1477600026 from rfl, show 1503914060200516822 % 2 ^ 32 = 2734136534 from rfl, show 1503914060200516822 / 2 ^ 32 = 350157278 from rfl]
  have m64 : ∀ x, x % B64 < B64 := fun x => Nat.mod_lt _ (by decide)
  have s32 : ∀ {k : Nat}, k < 4294967296 → k * 2 ^ 32 % B64 < B64 ∧ k * 2 ^ 32 % B64 % 2 ^ 32 = 0 := fun {k} hk => by simp only [B64]; omega
  have lt64 : ∀ {k : Nat}, k < 4294967296 → k < B64 := fun {k} hk => by simp only [B64]; omega
  rw [ask_umul, ask_uadd, ask_umask (k := 32) (m64 _) (by decide) (by decide), ek0, ask_uplain, ask_ushrU (by omega), ec0]
  rw [ask_umul, ask_uadd, ask_umask (k := 32) (m64 _) (by decide) (by decide), ek1, ask_uplain, ask_ushrU (by omega), ec1]
  rw [ask_umul, ask_uadd, ask_umask (k := 32) (m64 _) (by decide) (by decide), ek2, ask_uplain, ask_ushrU (by omega), ec2]
  rw [ask_umul, ask_uadd, ask_umask (k := 32) (m64 _) (by decide) (by decide), ek3, ask_uplain, ask_ushrU (by omega), ec3]
  rw [ask_ushlU (by omega), ask_uorD 32 (s32 hk1).1 (s32 hk1).2 hk0 (lt64 hk0), ask_ushlU (by omega), ask_uorD 32 (s32 hk3).1 (s32 hk3).2 hk2 (lt64 hk2), ask_uplain, ask_uplain, ask_uplain]
  intro _ _
  rw [ask_uplain, ask_uplain, ask_uplain, S_of b0 b1 b2 b3, S_of hs0 hs1 hc3 (show 0 < B64 by decide), hqc]
  have hlowW : l0 + B64 * l1 + B64 ^ 2 * l2 + B64 ^ 3 * l3 < W256 := num_lt b0 b1 b2 b3
  generalize l0 + B64 * l1 + B64 ^ 2 * l2 + B64 ^ 3 * l3 = low at *
  have hQL : q * cc < lN := by rw [lN_val]; simp only [cc]; omega
  obtain ⟨n1, n2⟩ := step_lin (L := lN) (c := cc) (M := 2 ^ 252) (Q := q * cc) (by decide) hn rfl hlow hQL
  have hQW : q * cc < W256 := Nat.lt_trans hQL lN_lt
  obtain ⟨Q, hQ⟩ : ∃ Q, q * cc = Q := ⟨_, rfl⟩
  rw [hQ] at n1 n2 hQW ⊢
  have hmod : ∀ x, x % W256 < W256 := fun x => Nat.mod_lt _ (by decide)
  refine call_PE hS (T := T2r) (f := 115) rfl (low, Q) ⟨hlowW, hQW⟩ ?_
  dsimp only
  rw [ask_ext0, ask_ext1]
  intro _ _
  rw [ask_aggS, ask_selS0, ask_selS1, ask_selS2, ask_selS3]
  have fold : ∀ n, Value.agg #[U (lb n 0), U (lb n 1), U (lb n 2), U (lb n 3)] = S n := fun _ => rfl
  have foldl : Value.agg #[U 6346243789798364141, U 1503914060200516822, U 0, U 1152921504606846976] = S lN := by rw [S, lb_l.1, lb_l.2.1, lb_l.2.2.1, lb_l.2.2.2]
  rw [fold, foldl]
  by_cases hlt : low < Q
  · obtain ⟨hd, hres⟩ := n1 hlt
    rw [if_pos hlt, ask_ueql]
    refine a_ifD (fun _ => ?_) fun h => absurd rfl h
    refine call_PE hS (T := T2r) (f := 130) rfl ((low + W256 - Q) % W256, lN) ⟨hmod _, lN_lt⟩ ?_
    dsimp only
    have e : ((low + W256 - Q) % W256 + lN) % W256 = low + lN - Q := by simp only [W256] at *; rw [lN_val] at *; omega
    rw [ask_ext0, ask_ext1, e, ask_aggS, ask_selS0, ask_selS1, ask_selS2, ask_selS3, fold]
    refine call_PE hS (T := T2r) (f := 114) rfl (low + lN - Q, lN) ⟨Nat.lt_trans hd lN_lt, lN_lt⟩ ?_
    dsimp only
    rw [ask_not]
    refine a_ifN (fun h => absurd hd h) fun _ => ?_
    rw [ask_uplain, ask_uplain, ask_uplain, ask_uplain, fold]
    exact hR _ _ _ _ (by rw [hres])
  · obtain ⟨hd, hres⟩ := n2 hlt
    rw [if_neg hlt, ask_ueql]
    refine a_ifD (fun h => by cases h) fun _ => ?_
    have e : (low + W256 - Q) % W256 = low - Q := by simp only [W256] at *; omega
    rw [e]
    refine call_PE hS (T := T2r) (f := 114) rfl (low - Q, lN) ⟨Nat.lt_trans hd lN_lt, lN_lt⟩ ?_
    dsimp only
    rw [ask_not]
    refine a_ifN (fun h => absurd hd h) fun _ => ?_
    rw [ask_uplain, ask_uplain, ask_uplain, ask_uplain, fold]
    exact hR _ _ _ _ (by rw [hres])
end Go.Vc
