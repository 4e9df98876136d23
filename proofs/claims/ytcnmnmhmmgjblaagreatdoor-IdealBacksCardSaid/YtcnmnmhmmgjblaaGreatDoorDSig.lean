/-
  Claims over the scalars (sigma.Key, Opening, Equal and the document's): contracts.
-/
import Derived.Test.YtcnmnmhmmgjblaaGreatDoorDRef2
import Derived.Test.YtcnmnmhmmgjblaaGreatDoorDLeast
namespace Go.Vc
open Go Go.Proofs Go.RowKit
theorem Keeps1.imp {P : Program} {G : World → Prop} {f : Nat} {c d : Contract} (h : Keeps1 P G f c) (hp : ∀ args, d.pre args → c.pre args ∧ ∀ v, c.post args v → d.post args v) (hW : ∀ args w, ¬ d.preW args w) : Keeps1 P G f d :=
  ⟨fun args w hd hg => (h.calls args w (hp args hd).1 hg).mono fun _ _ ⟨v, he, hq, hb⟩ => ⟨v, he, (hp args hd).2 v hq, hb⟩, fun args w hd _ => absurd hd (hW args w)⟩
theorem S_L4 (n : Nat) : S n = L4 (lb n 0) (lb n 1) (lb n 2) (lb n 3) := rfl
theorem lim_lb (n : Nat) : lim (lb n 0) (lb n 1) (lb n 2) (lb n 3) := ⟨lb_lt _ _, lb_lt _ _, lb_lt _ _, lb_lt _ _⟩
theorem lm_lt (n : Nat) : n % lN < W256 := Nat.lt_trans (Nat.mod_lt _ (by decide)) lN_lt
/-- The least scalar, by numbers. -/
def cLeastS : Contract := fnP enc1 (· < W256) (fun n v => v = S (n % lN))
theorem keepsLeast : Keeps1 Tryz.prog GT 71 cLeastS := keeps71.imp (fun args ⟨n, hn, ha⟩ => ⟨⟨_, _, _, _, ha, lim_lb n⟩, fun v hv m hm hm' => by
    obtain rfl := inj1 m n hm hn (hm'.symm.trans ha)
    obtain ⟨d0, d1, d2, d3, rfl, ⟨q0, q1, q2, q3⟩, hN⟩ := hv _ _ _ _ ha
    replace hN : d0 + B64 * d1 + B64 ^ 2 * d2 + B64 ^ 3 * d3 = (lb m 0 + B64 * lb m 1 + B64 ^ 2 * lb m 2 + B64 ^ 3 * lb m 3) % lN := hN
    rw [limbs_sum m hn] at hN
    show Value.agg #[U d0, U d1, U d2, U d3] = _
    rw [S_of q0 q1 q2 q3]
    exact congrArg S hN⟩) (fun _ _ h => h)
def ann119 : Ann := ⟨[], [], 70, [], [1], none, [], []⟩
theorem vc119 (X : Ctx) (β : Nat → Nat) (x0 : Value) : (run Tryz.prog ann119 119 [.x (.v 0)] [] [] 2).den X (env0 [x0] X.w0) 2 β 0 (fun _ _ _ => False) = (
 Ask (rAgg 4 x0) fun x2 =>
 AskNew X.w0 fun _ =>
 AskNew X.w0 fun b1 =>
 Ask (rAgg 4 x2) fun x3 =>
 Ask (rSel (aggArr x3) 0 1 false) fun x4 =>
 Ask (rSel (aggArr x3) 1 1 false) fun x5 =>
 Ask (rSel (aggArr x3) 2 1 false) fun x6 =>
 Ask (rSel (aggArr x3) 3 1 false) fun x7 =>
 Ask (rPlain x4) fun x8 =>
 Ask (rPlain x5) fun x9 =>
 Ask (rPlain x6) fun x10 =>
 Ask (rPlain x7) fun x11 =>
 Ret X X.w0 [b1] [] (.agg #[(J 2), (J 0), (J 0), (J 0), (J 0), (J 0), (J 0), (J 0), (J 0), (J 0), (J 0), (J 0), (J 0), (J 0), (J 0), (J 0), (J 0), (J 0), (J 0), (J 0), (J 0), x8, x9, x10, x11, (.slice none 0 0)])) := by kernel_rfl
def cLineOfS : Contract := fnP enc1 (· < W256) (fun n v => v = E n)
theorem keepsLineOf : Keeps1 Tryz.prog GT 119 cLineOfS := by
  refine keepsP (T := T0) (A := ann119) inj1 hMix keepT0 hGT (fun f hf => by cases hf) (fun f hf => by cases hf) fun n w0 hn _ => ⟨[.x (.v 0)], [], [], 2, env0 [S n] w0, fun b => b, 0, rfl, rfl, fun X hX => mem_none hX rfl, fun X hP hS hw hX hR => ?_⟩
  subst hw
  rw [vc119 X]
  rw [ask_aggS]; intro _ _ _ _
  rw [ask_aggS, ask_selS0, ask_selS1, ask_selS2, ask_selS3, ask_uplain, ask_uplain, ask_uplain, ask_uplain]
  exact hR _ _ _ _ rfl
/-! ### claims -/
theorem tyL : ElTy Tryz.prog 40 31 4 32 (.agg #[U 0, U 0, U 0, U 0]) := ⟨by kernel_rfl, by kernel_rfl⟩
theorem ask_aggE {K : Value → Prop} {n : Nat} : Ask (rAgg 26 (E n)) K = K (E n) := ask_agg rfl (by simp [encE, U, Value.oneCell'])
/-! ### sets -/
def zE : List Value := [J 0, J 0, J 0, J 0, J 0, J 0, J 0, J 0, J 0, J 0, J 0, J 0, J 0, J 0, J 0, J 0, J 0, J 0, J 0, J 0, J 0, U 0, U 0, U 0, U 0, .slice none 0 0]
theorem one_encS (n : Nat) : (encS n).all (·.oneCell') = true := by simp [encS, U, Value.oneCell']
theorem one_encE (n : Nat) : (encE n).all (·.oneCell') = true := by simp [encE, U, Value.oneCell']
end Go.Vc
