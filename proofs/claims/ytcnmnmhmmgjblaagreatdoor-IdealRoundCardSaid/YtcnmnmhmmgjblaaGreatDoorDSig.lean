/-
  Claims over the scalars (sigma.Key, Opening, Equal and the document's): contracts.
-/
import Derived.Test.YtcnmnmhmmgjblaaGreatDoorDRef2
import Derived.Test.YtcnmnmhmmgjblaaGreatDoorDLeast
namespace Go.Vc
open Go Go.Proofs Go.RowKit
theorem Keeps1.imp {P : Program} {G : World → Prop} {f : Nat} {c d : Contract} (h : Keeps1 P G f c) (hp : ∀ args, d.pre args → c.pre args ∧ ∀ v, c.post args v → d.post args v) (hW : ∀ args w, ¬ d.preW args w) : Keeps1 P G f d :=
  ⟨fun args w hd hg => (h.calls args w (hp args hd).1 hg).mono fun _ _ ⟨v, he, hq, hb⟩ => ⟨v, he, (hp args hd).2 v hq, hb⟩, fun args w hd _ => absurd hd (hW args w)⟩
theorem lim_lb (n : Nat) : lim (lb n 0) (lb n 1) (lb n 2) (lb n 3) := ⟨lb_lt _ _, lb_lt _ _, lb_lt _ _, lb_lt _ _⟩
theorem lm_lt (n : Nat) : n % lN < W256 := Nat.lt_trans (Nat.mod_lt _ (by decide)) lN_lt
/-- The least scalar, by numbers. -/
def cLeastS : Contract := fnP enc1 (· < W256) (fun n v => v = S (n % lN))
theorem keepsLeast : Keeps1 Tryz.prog GT 71 cLeastS := keeps71.imp (fun args ⟨n, hn, ha⟩ => ⟨⟨_, _, _, _, ha, lim_lb n⟩, fun v hv m hm hm' => by
    obtain rfl := inj1 m n hm hn (hm'.symm.trans ha)
    obtain ⟨d0, d1, d2, d3, rfl, ⟨q0, q1, q2, q3⟩, hN⟩ := hv _ _ _ _ ha
    replace hN : d0 + B64 * d1 + B64 ^ 2 * d2 + B64 ^ 3 * d3 = (lb m 0 + B64 * lb m 1 + B64 ^ 2 * lb m 2 + B64 ^ 3 * lb m 3) % lN := hN
    rw [limbs_sum m hn] at hN
    show Value.agg #[U d0, U d1, U d2, U d3] = _
    rw [S_of q0 q1 q2 q3]
    exact congrArg S hN⟩) (fun _ _ h => h)
/-! ### claims -/
theorem tyL : ElTy Tryz.prog 40 31 4 32 (.agg #[U 0, U 0, U 0, U 0]) := ⟨by kernel_rfl, by kernel_rfl⟩
/-! ### sets -/
theorem one_encS (n : Nat) : (encS n).all (·.oneCell') = true := by simp [encS, U, Value.oneCell']
end Go.Vc
