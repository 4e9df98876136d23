/-
  A scalar that is 0.
-/
import Derived.Test.YtcnmnmhmmgjblaaGreatDoorDSc
import Derived.Test.YtcnmnmhmmgjblaaGreatDoorVcMut
namespace Go.Vc
open Go Go.Proofs Go.RowKit
def ann30 : Ann := ⟨[], [71], 70, [], [1], none, [], []⟩
theorem vc30 (X : Ctx) (β : Nat → Nat) (x0 : Value) : (run Tryz.prog ann30 30 [.x (.v 0)] [] [] 2).den X (env0 [x0] X.w0) 2 β 0 (fun _ _ _ => False) = (
 Ask (rAgg 4 x0) fun x2 =>
 AskNew X.w0 fun _ =>
 AskF X 71 [x2] fun x3 =>
 Ask (rBin X.P .eql 29 false false x3 (.agg #[(U 0), (U 0), (U 0), (U 0)])) fun x4 =>
 Ret X X.w0 [] [] x4) := by kernel_rfl
def cIsZ : Contract := fnP enc1 (· < W256) (fun n v => v = .bool (decide (n % lN = 0)))
def Tiz : Table := T0.add 71 cLeastS
theorem keepTiz : AllKeep Tryz.prog GT Tiz := keepT0.add keepsLeast
theorem keepsIsZ : Keeps1 Tryz.prog GT 30 cIsZ := by
  refine keepsP (T := Tiz) (A := ann30) inj1 hMix keepTiz hGT (calls_of (by kernel_rfl)) (callsW_of (by kernel_rfl)) fun n w0 hn _ => ⟨[.x (.v 0)], [], [], 2, env0 [S n] w0, fun b => b, 0, rfl, rfl, fun X hX => mem_none hX rfl, fun X hP hS hw hX hR => ?_⟩
  subst hw
  rw [vc30 X]
  rw [ask_aggS]; intro _ _
  refine call_PE hS (T := Tiz) (f := 71) rfl n hn ?_
  rw [show Value.agg #[U 0, U 0, U 0, U 0] = S 0 from rfl, ask_eqlS (hP ▸ a4S) (lm_lt n) (by decide)]
  exact hR _ _ _ _ rfl
end Go.Vc
