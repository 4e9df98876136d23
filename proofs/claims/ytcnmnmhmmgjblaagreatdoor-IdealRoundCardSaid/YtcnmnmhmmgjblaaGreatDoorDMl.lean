/-
  The calls of Line, both sides; MsmLines.
-/
import Derived.Test.YtcnmnmhmmgjblaaGreatDoorDRm2
namespace Go.Vc
open Go Go.Proofs Go.RowKit
/-! ### the program's Line -/
def ann31 : Ann := ⟨[], [29], 70, [], [2, 3, 4], none, [], []⟩
theorem vc31 (X : Ctx) (β : Nat → Nat) (x0 x1 : Value) : (run Tryz.prog ann31 31 [.x (.v 0), .x (.v 1)] [] [] 3).den X (env0 [x0, x1] X.w0) 3 β 0 (fun _ _ _ => False) = (
 Ask (rAgg 4 x0) fun x3 =>
 AskNew X.w0 fun _ =>
 Ask (rAgg 4 x1) fun x4 =>
 AskNew X.w0 fun _ =>
 Ask (rAgg 4 (.agg #[(U 0), (U 0), (U 0), (U 0)])) fun _ =>
 AskNew X.w0 fun b2 =>
 AskF X 29 [x3, x4] fun x6 =>
 Ask (rAgg 4 x6) fun x7 =>
 Ask (rSel (aggArr x7) 0 1 false) fun x8 =>
 Ask (rSel (aggArr x7) 1 1 false) fun x9 =>
 Ask (rSel (aggArr x7) 2 1 false) fun x10 =>
 Ask (rSel (aggArr x7) 3 1 false) fun x11 =>
 Ask (rAgg 4 (.agg #[x8, x9, x10, x11])) fun x12 =>
 Ret X X.w0 [b2] [] x12) := by kernel_rfl
def ann217 : Ann := ⟨[], [29], 70, [], [1, 2], none, [], []⟩
theorem vc217 (X : Ctx) (β : Nat → Nat) (x0 : Value) : (run Tryz.prog ann217 217 [.x (.v 0)] [] [] 2).den X (env0 [x0] X.w0) 2 β 0 (fun _ _ _ => False) = (
 Ask (rAgg 4 x0) fun x2 =>
 AskNew X.w0 fun _ =>
 Ask (rAgg 4 (.agg #[(U 0), (U 0), (U 0), (U 0)])) fun _ =>
 AskNew X.w0 fun b1 =>
 AskF X 29 [x2, x2] fun x4 =>
 Ask (rAgg 4 x4) fun x5 =>
 Ask (rSel (aggArr x5) 0 1 false) fun x6 =>
 Ask (rSel (aggArr x5) 1 1 false) fun x7 =>
 Ask (rSel (aggArr x5) 2 1 false) fun x8 =>
 Ask (rSel (aggArr x5) 3 1 false) fun x9 =>
 Ask (rAgg 4 (.agg #[x6, x7, x8, x9])) fun x10 =>
 Ret X X.w0 [b1] [] x10) := by kernel_rfl
def ann218 : Ann := ⟨[], [49], 70, [], [2, 3, 4], none, [], []⟩
theorem vc218 (X : Ctx) (β : Nat → Nat) (x0 x1 : Value) : (run Tryz.prog ann218 218 [.x (.v 0), .x (.v 1)] [] [] 3).den X (env0 [x0, x1] X.w0) 3 β 0 (fun _ _ _ => False) = (
 Ask (rAgg 4 x0) fun x3 =>
 AskNew X.w0 fun _ =>
 Ask (rAgg 4 x1) fun x4 =>
 AskNew X.w0 fun _ =>
 Ask (rAgg 4 (.agg #[(U 0), (U 0), (U 0), (U 0)])) fun _ =>
 AskNew X.w0 fun b2 =>
 AskF X 49 [x3, x4] fun x6 =>
 Ask (rAgg 4 x6) fun x7 =>
 Ask (rSel (aggArr x7) 0 1 false) fun x8 =>
 Ask (rSel (aggArr x7) 1 1 false) fun x9 =>
 Ask (rSel (aggArr x7) 2 1 false) fun x10 =>
 Ask (rSel (aggArr x7) 3 1 false) fun x11 =>
 Ask (rAgg 4 (.agg #[x8, x9, x10, x11])) fun x12 =>
 Ret X X.w0 [b2] [] x12) := by kernel_rfl
def ann36 : Ann := ⟨[], [34], 70, [], [2, 3], none, [], []⟩
theorem vc36 (X : Ctx) (β : Nat → Nat) (x0 x1 : Value) : (run Tryz.prog ann36 36 [.x (.v 0), .x (.v 1)] [] [] 3).den X (env0 [x0, x1] X.w0) 3 β 0 (fun _ _ _ => False) = (
 Ask (rAgg 4 x0) fun x3 =>
 AskNew X.w0 fun _ =>
 Ask (rAgg 4 x1) fun x4 =>
 AskNew X.w0 fun _ =>
 AskF X 34 [x3, x4] fun x5 =>
 Ret X X.w0 [] [] x5) := by kernel_rfl
/-! ### the document's -/
end Go.Vc
