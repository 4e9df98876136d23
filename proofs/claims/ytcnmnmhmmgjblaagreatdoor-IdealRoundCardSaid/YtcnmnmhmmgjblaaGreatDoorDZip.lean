/-
  What a sum costs at most, on both sides.
-/
import Derived.Test.YtcnmnmhmmgjblaaGreatDoorDSig2
import Derived.Test.YtcnmnmhmmgjblaaGreatDoorVcMut
namespace Go.Vc
open Go Go.Proofs Go.RowKit
def wN (w : Nat) : Nat := (256 + w - 1) / w + 1
def mostN (n w : Nat) : Nat := wN w * (n + 2 * 2 ^ w + w + 1)
theorem wN_le (w : Nat) : wN w ≤ 256 + w := by
  unfold wN
  have := Nat.div_le_self (256 + w - 1) w
  omega
theorem pow_le13 {w : Nat} (h : w ≤ 13) : 2 ^ w ≤ 8192 := Nat.pow_le_pow_right (n := 2) (by decide) h
theorem most_le {n w : Nat} (hn : n ≤ 8192) (hw : w ≤ 13) : mostN n w ≤ 8000000 := by
  have h1 := wN_le w
  have h2 := pow_le13 hw
  exact Nat.le_trans (Nat.mul_le_mul (show wN w ≤ 269 by omega) (show n + 2 * 2 ^ w + w + 1 ≤ 24590 by omega)) (by decide)
def domW (w : Nat) : Prop := 1 ≤ w ∧ w ≤ 13
def domM (p : Nat × Nat) : Prop := p.1 ≤ 8192 ∧ domW p.2
theorem J_inj {a b : Nat} (h : J a = J b) : a = b := by
  simp only [Value.int.injEq, true_and] at h
  omega
theorem injJ (a b : Nat) (_ : domW a) (_ : domW b) (h : [J a] = [J b]) : a = b := J_inj (by simpa using h)
theorem injJ2 (a b : Nat × Nat) (_ : domM a) (_ : domM b) (h : [J a.1, J a.2] = [J b.1, J b.2]) : a = b := by
  simp only [List.cons.injEq, and_true] at h
  exact Prod.ext (J_inj h.1) (J_inj h.2)
def ann146 : Ann := ⟨[], [], 70, [], [], none, [], []⟩
theorem vc146 (X : Ctx) (β : Nat → Nat) (x0 : Value) : (run Tryz.prog ann146 146 [.x (.v 0)] [] [] 2).den X (env0 [x0] X.w0) 2 β 0 (fun _ _ _ => False) = (
 Ask (rBin X.P .add 3 true false (J 256) x0) fun x2 =>
 Ask (rBin X.P .sub 3 false true x2 (J 1)) fun x3 =>
 Ask (rBin X.P .quo 3 false false x3 x0) fun x4 =>
 Ask (rBin X.P .add 3 false true x4 (J 1)) fun x5 =>
 Ret X X.w0 [] [] x5) := by kernel_rfl
def cWins : Contract := fnP (fun w : Nat => [J w]) domW (fun w v => v = J (wN w))
theorem keepsWins : Keeps1 Tryz.prog GT 146 cWins := by
  refine keepsP (T := T0) (A := ann146) injJ hMix keepT0 hGT (calls_of (by kernel_rfl)) (callsW_of (by kernel_rfl)) fun w w0 ⟨h1, h2⟩ _ => ⟨[.x (.v 0)], [], [], 2, env0 [J w] w0, fun b => b, 0, rfl, rfl, fun X hX => mem_none hX rfl, fun X hP hS hw hX hR => ?_⟩
  subst hw
  rw [vc146 X]
  rw [ask_addN (by omega), ask_subN (by omega) (by omega), ask_quoN h1 (by omega)]
  have := wN_le w
  unfold wN at this
  rw [ask_addN (by omega)]
  exact hR _ _ _ _ rfl
def ann136 : Ann := ⟨[], [146], 70, [], [], none, [], []⟩
theorem vc136 (X : Ctx) (β : Nat → Nat) (x0 x1 : Value) : (run Tryz.prog ann136 136 [.x (.v 0), .x (.v 1)] [] [] 3).den X (env0 [x0, x1] X.w0) 3 β 0 (fun _ _ _ => False) = (
 AskF X 146 [x1] fun x3 =>
 Ask (rBin X.P .shl 3 true false (J 2) x1) fun x4 =>
 Ask (rBin X.P .add 3 false false x0 x4) fun x5 =>
 Ask (rBin X.P .add 3 false false x5 x1) fun x6 =>
 Ask (rBin X.P .add 3 false true x6 (J 1)) fun x7 =>
 Ask (rBin X.P .mul 3 false false x3 x7) fun x8 =>
 Ret X X.w0 [] [] x8) := by kernel_rfl
def cMost : Contract := fnP (fun p : Nat × Nat => [J p.1, J p.2]) domM (fun p v => v = J (mostN p.1 p.2))
theorem min_one {n : Nat} (w : Nat) (h1 : 1 ≤ w) (h2 : w < 2) : mostN n 1 ≤ mostN n w := by
  obtain rfl : w = 1 := by omega
  exact Nat.le_refl _
def domN (n : Nat) : Prop := n ≤ 8192
theorem injN (a b : Nat) (_ : domN a) (_ : domN b) (h : [J a] = [J b]) : a = b := J_inj (by simpa using h)
def ann134 : Ann := ⟨[(3, ([3, 4], []))], [136], 70, [], [], none, [], []⟩
theorem vc134 (X : Ctx) (β : Nat → Nat) (x0 : Value) : (run Tryz.prog ann134 134 [.x (.v 0)] [] [] 2).den X (env0 [x0] X.w0) 2 β 0 (fun _ _ _ => False) = (
 ∃ (I0 : List Value → World → Prop) (μ0 : List Value → World → Nat), (∀ w, KnownV X X.w0 [] [] w → I0 [(J 1), (J 2)] w) ∧ ∀ x2 x3 w4, I0 [x2, x3] w4 →
 Ask (rBin X.P .leq 3 false true x3 (J 12)) fun x5 =>
 (∃ t, x5 = .bool t) ∧ (x5 = .bool true →
 AskF X 136 [x0, x3] fun x6 =>
 AskF X 136 [x0, x2] fun x7 =>
 Ask (rBin X.P .lss 3 false false x6 x7) fun x8 =>
 (∃ t, x8 = .bool t) ∧ (x8 = .bool true →
 Ask (rBin X.P .add 3 false true x3 (J 1)) fun x9 =>
 Again X w4 [] [] fun w => I0 [x3, x9] w ∧ μ0 [x3, x9] w < μ0 [x2, x3] w4) ∧ (x8 = .bool false →
 Ask (rBin X.P .add 3 false true x3 (J 1)) fun x9 =>
 Again X w4 [] [] fun w => I0 [x2, x9] w ∧ μ0 [x2, x9] w < μ0 [x2, x3] w4)) ∧ (x5 = .bool false →
 Ret X w4 [] [] x2)) := by kernel_rfl
def cSuits : Contract := fnP (fun n : Nat => [J n]) domN (fun n v => ∃ b, v = J b ∧ 1 ≤ b ∧ b ≤ 12 ∧ ∀ w, 1 ≤ w → w ≤ 12 → mostN n b ≤ mostN n w)
end Go.Vc
