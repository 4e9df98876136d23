/-
  The calls of Line, both sides; MsmLines.
-/
import Derived.Test.YtcnmnmhmmgjblaaGreatDoorDRm2
namespace Go.Vc
open Go Go.Proofs Go.RowKit
theorem ask_eqlJ {P : Program} {K : Value → Prop} {t : TypeId} {cx cy : Bool} {a b : Nat} : Ask (rBin P .eql t cx cy (J a) (J b)) K = K (.bool (decide (a = b))) := by
  rw [ask_eql]; congr 2; rw [Bool.eq_iff_iff]; simp; omega
theorem ask_selK {K : Value → Prop} {n : Nat} : Ask (rSel (aggArr (E n)) 0 1 false) K = K (J 2) := ask_sel1 rfl
theorem ask_selE {K : Value → Prop} {n : Nat} : Ask (rSel (aggArr (E n)) 21 4 true) K = K (S n) := ask_eq fun v => ⟨fun h => h.2, fun h => ⟨by simp [aggArr, E, encE], h⟩⟩
/-! ### the program's Line -/
/-! ### the document's -/
def ann132 : Ann := ⟨[(11, ([], []))], [106, 119], 70, [], [8], none, [], []⟩
def kb132_0 (b0 b1 b2 : Nat) (x3 x4 : Value) : List KB := [⟨b0, true, 62, (aggArr x3)⟩, ⟨b1, true, 62, (aggArr x4)⟩, ⟨b2, true, 62, #[(J 0), (J 0), (J 0), (J 0), (J 0), (J 0), (J 0), (J 0), (J 0), (J 0), (J 0), (J 0), (J 0), (J 0), (J 0), (J 0), (J 0), (J 0), (J 0), (J 0), (J 0), (U 0), (U 0), (U 0), (U 0), (.slice none 0 0)]⟩]
theorem vc132 (X : Ctx) (β : Nat → Nat) (x0 x1 : Value) : (run Tryz.prog ann132 132 [.x (.v 0), .x (.v 1)] [] [] 3).den X (env0 [x0, x1] X.w0) 3 β 0 (fun _ _ _ => False) = (
 Ask (rAgg 26 x0) fun x3 =>
 AskNew X.w0 fun b0 =>
 Ask (rAgg 26 x1) fun x4 =>
 AskNew X.w0 fun b1 =>
 AskNew X.w0 fun b2 =>
 Ask (rSel (aggArr x3) 0 1 false) fun x5 =>
 Ask (rBin X.P .eql 3 false true x5 (J 1)) fun x6 =>
 (∃ t, x6 = .bool t) ∧ (x6 = .bool true →
 Ask (rSel (aggArr x3) 1 20 true) fun _ =>
 Ask (rSel (aggArr x4) 1 20 true) fun _ =>
 False /- 1 -/) ∧ (x6 = .bool false →
 Ask (rBin X.P .eql 3 false true x5 (J 2)) fun x7 =>
 (∃ t, x7 = .bool t) ∧ (x7 = .bool true →
 Ask (rSel (aggArr x3) 21 4 true) fun x8 =>
 Ask (rSel (aggArr x4) 21 4 true) fun x9 =>
 AskF X 106 [x8, x9] fun x10 =>
 AskF X 119 [x10] fun x11 =>
 Ask (rAgg 26 x11) fun x12 =>
 Ret X X.w0 [b2] [] x12) ∧ (x7 = .bool false →
 Ask (rSel (aggArr x3) 25 1 false) fun x8 =>
 Ask (rLen X.P 50 x8) fun x9 =>
 Ask (rSel (aggArr x4) 25 1 false) fun x10 =>
 Ask (rLen X.P 50 x10) fun x11 =>
 Ask (rBin X.P .gtr 3 false false x11 x9) fun x12 =>
 (∃ t, x12 = .bool t) ∧ (x12 = .bool true →
 Ask (rSel (aggArr x4) 25 1 false) fun x13 =>
 Ask (rLen X.P 50 x13) fun _ =>
 ∃ (I0 : List Value → World → Prop) (_μ0 : List Value → World → Nat), (∀ w, KnownV X X.w0 [] (kb132_0 b0 b1 b2 x3 x4) w → I0 [] w) ∧ ∀  w15, I0 [] w15 →
 False /- 1 -/) ∧ (x12 = .bool false →
 ∃ (I0 : List Value → World → Prop) (_μ0 : List Value → World → Nat), (∀ w, KnownV X X.w0 [] (kb132_0 b0 b1 b2 x3 x4) w → I0 [] w) ∧ ∀  w13, I0 [] w13 →
 False /- 1 -/)))) := by kernel_rfl
def ann131 : Ann := ⟨[(8, ([5], []))], [59, 119], 70, [], [3], none, [], []⟩
def kb131_0 (b0 b1 b2 : Nat) (x3 x4 : Value) : List KB := [⟨b0, true, 62, (aggArr x3)⟩, ⟨b1, true, 49, (aggArr x4)⟩, ⟨b2, true, 62, #[(J 0), (J 0), (J 0), (J 0), (J 0), (J 0), (J 0), (J 0), (J 0), (J 0), (J 0), (J 0), (J 0), (J 0), (J 0), (J 0), (J 0), (J 0), (J 0), (J 0), (J 0), (U 0), (U 0), (U 0), (U 0), (.slice none 0 0)]⟩]
theorem vc131 (X : Ctx) (β : Nat → Nat) (x0 x1 : Value) : (run Tryz.prog ann131 131 [.x (.v 0), .x (.v 1)] [] [] 3).den X (env0 [x0, x1] X.w0) 3 β 0 (fun _ _ _ => False) = (
 Ask (rAgg 26 x0) fun x3 =>
 AskNew X.w0 fun b0 =>
 Ask (rAgg 4 x1) fun x4 =>
 AskNew X.w0 fun b1 =>
 AskNew X.w0 fun b2 =>
 Ask (rSel (aggArr x3) 0 1 false) fun x5 =>
 Ask (rBin X.P .eql 3 false true x5 (J 1)) fun x6 =>
 (∃ t, x6 = .bool t) ∧ (x6 = .bool true →
 Ask (rSel (aggArr x3) 1 20 true) fun _ =>
 False /- 1 -/) ∧ (x6 = .bool false →
 Ask (rBin X.P .eql 3 false true x5 (J 2)) fun x7 =>
 (∃ t, x7 = .bool t) ∧ (x7 = .bool true →
 Ask (rSel (aggArr x3) 21 4 true) fun x8 =>
 AskF X 59 [x8, x4] fun x9 =>
 AskF X 119 [x9] fun x10 =>
 Ask (rAgg 26 x10) fun x11 =>
 Ret X X.w0 [b2] [] x11) ∧ (x7 = .bool false →
 ∃ (I0 : List Value → World → Prop) (_μ0 : List Value → World → Nat), (∀ w, KnownV X X.w0 [] (kb131_0 b0 b1 b2 x3 x4) w → I0 [(.slice none 0 0)] w) ∧ ∀ x8 w9, I0 [x8] w9 →
 False /- 1 -/))) := by kernel_rfl
end Go.Vc
