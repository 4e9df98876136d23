/-
  The sets in which there is no relation: unit lists, by a map, on the program's side.
-/
import Derived.Test.YtcnmnmhmmgjblaaGreatDoorDZip2
import Derived.Test.YtcnmnmhmmgjblaaGreatDoorDRm
import Derived.Test.YtcnmnmhmmgjblaaGreatDoorVcMut
namespace Go.Vc
open Go Go.Proofs Go.RowKit
def ann28 : Ann := ⟨[], [], 70, [], [2], none, [], []⟩
theorem vc28 (X : Ctx) (β : Nat → Nat) (x0 : Value) : (run Tryz.prog ann28 28 [.x (.v 0)] [] [] 2).den X (env0 [x0] X.w0) 2 β 0 (fun _ _ _ => False) = (
 Ask (rAgg 4 (.agg #[(U 0), (U 0), (U 0), (U 0)])) fun _ =>
 AskNew X.w0 fun b0 =>
 Ask (rPlain x0) fun x3 =>
 Ask (rAgg 4 (.agg #[x3, (U 0), (U 0), (U 0)])) fun x4 =>
 Ret X X.w0 [b0] [] x4) := by kernel_rfl
theorem keepsSInt : Keeps1 Tryz.prog GT 28 cRInt := by
  refine keepsP (T := T0) (A := ann28) (fun a b _ _ h => U_inj' (by simpa using h)) hMix keepT0 hGT (calls_of (by kernel_rfl)) (callsW_of (by kernel_rfl)) fun n w0 hn _ => ⟨[.x (.v 0)], [], [], 2, env0 [U n] w0, fun b => b, 0, rfl, rfl, fun X hX => mem_none hX rfl, fun X hP hS hw hX hR => ?_⟩
  subst hw
  rw [vc28 X]
  rw [ask_zero4]; intro _ _
  rw [ask_uplain, S_small hn, ask_aggS]
  exact hR _ _ _ _ rfl
end Go.Vc
