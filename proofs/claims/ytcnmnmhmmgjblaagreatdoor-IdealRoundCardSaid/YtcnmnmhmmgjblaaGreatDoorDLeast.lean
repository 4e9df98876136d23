import Derived.Test.YtcnmnmhmmgjblaaGreatDoorVcTac
import Derived.KernelRfl
import Derived.Test.YtcnmnmhmmgjblaaGreatDoorProg
import Derived.Lib.Mul64
/-
  Seat D: the scalar layer's small functions keep their contracts.
-/
namespace Go.Vc
open Go Go.Proofs Go.RowKit
theorem sub64 (x y b : Nat) (hb : b ≤ 1) (w : World) : (callFunc 127 #[U x, U y, U b]).run Tryz.prog w = .ok (.value (.tuple #[U ((x + B64 - y - b) % B64), U (if x < y + b then 1 else 0)])) w := by
  unfold U
  rw [run_callFunc_extern Tryz.func127 (by kernel_rfl) (by kernel_rfl) (by kernel_rfl) (e := sub64Entry) (by kernel_rfl), run_sub64 x y b hb]
  rfl
theorem add64 (x y c : Nat) (hc : c ≤ 1) (w : World) : (callFunc 124 #[U x, U y, U c]).run Tryz.prog w = .ok (.value (.tuple #[U ((x + y + c) % B64), U ((x + y + c) / B64)])) w := by
  unfold U
  rw [run_callFunc_extern Tryz.func124 (by kernel_rfl) (by kernel_rfl) (by kernel_rfl) (e := add64Entry) (by kernel_rfl), run_add64 x y c (by omega) (by omega) (by omega) (by omega)]
  simp only [Result.andThen, B64]
  congr 5
def ann100 : Ann := ⟨[], [], 70, [], [], none, [], []⟩
theorem vc100 (X : Ctx) (β : Nat → Nat) (x0 x1 x2 x3 x4 x5 x6 x7 : Value) : (run Tryz.prog ann100 100 [.l [.v 0, .v 1, .v 2, .v 3], .l [.v 4, .v 5, .v 6, .v 7]] [] [] 9).den X (env0 [x0, x1, x2, x3, x4, x5, x6, x7] X.w0) 9 β 0 (fun _ _ _ => False) = (
 AskNew X.w0 fun _ =>
 AskNew X.w0 fun _ =>
 AskNew X.w0 fun b2 =>
 AskNew X.w0 fun b3 =>
 Ask (rGen X.P (Op.call { callee := Callee.value (Operand.func 127), args := #[Operand.tmp 16, Operand.tmp 19, Operand.tmp 20], argTypes := #[22, 22, 22] }) 199 [(16, x0), (19, x4), (20, (U 0))]) fun x9 =>
 Ask (rExt X.P x9 0) fun x10 =>
 Ask (rExt X.P x9 1) fun x11 =>
 Ask (rPlain x10) fun x12 =>
 Ask (rGen X.P (Op.call { callee := Callee.value (Operand.func 127), args := #[Operand.tmp 16, Operand.tmp 19, Operand.tmp 20], argTypes := #[22, 22, 22] }) 199 [(16, x1), (19, x5), (20, x11)]) fun x13 =>
 Ask (rExt X.P x13 0) fun x14 =>
 Ask (rExt X.P x13 1) fun x15 =>
 Ask (rPlain x14) fun x16 =>
 Ask (rGen X.P (Op.call { callee := Callee.value (Operand.func 127), args := #[Operand.tmp 16, Operand.tmp 19, Operand.tmp 20], argTypes := #[22, 22, 22] }) 199 [(16, x2), (19, x6), (20, x15)]) fun x17 =>
 Ask (rExt X.P x17 0) fun x18 =>
 Ask (rExt X.P x17 1) fun x19 =>
 Ask (rPlain x18) fun x20 =>
 Ask (rGen X.P (Op.call { callee := Callee.value (Operand.func 127), args := #[Operand.tmp 16, Operand.tmp 19, Operand.tmp 20], argTypes := #[22, 22, 22] }) 199 [(16, x3), (19, x7), (20, x19)]) fun x21 =>
 Ask (rExt X.P x21 0) fun x22 =>
 Ask (rExt X.P x21 1) fun x23 =>
 Ask (rPlain x22) fun x24 =>
 Ask (rPlain x12) fun x25 =>
 Ask (rPlain x16) fun x26 =>
 Ask (rPlain x20) fun x27 =>
 Ask (rPlain x24) fun x28 =>
 Ret X X.w0 [b2, b3, b3, b3, b3] [] (.tuple #[(.agg #[x25, x26, x27, x28]), x23])) := by kernel_rfl
def ann84 : Ann := ⟨[], [], 70, [], [], none, [], []⟩
theorem vc84 (X : Ctx) (β : Nat → Nat) (x0 x1 x2 x3 x4 x5 x6 x7 : Value) : (run Tryz.prog ann84 84 [.l [.v 0, .v 1, .v 2, .v 3], .l [.v 4, .v 5, .v 6, .v 7]] [] [] 9).den X (env0 [x0, x1, x2, x3, x4, x5, x6, x7] X.w0) 9 β 0 (fun _ _ _ => False) = (
 AskNew X.w0 fun _ =>
 AskNew X.w0 fun _ =>
 AskNew X.w0 fun b2 =>
 AskNew X.w0 fun b3 =>
 Ask (rGen X.P (Op.call { callee := Callee.value (Operand.func 124), args := #[Operand.tmp 16, Operand.tmp 19, Operand.tmp 20], argTypes := #[22, 22, 22] }) 199 [(16, x0), (19, x4), (20, (U 0))]) fun x9 =>
 Ask (rExt X.P x9 0) fun x10 =>
 Ask (rExt X.P x9 1) fun x11 =>
 Ask (rPlain x10) fun x12 =>
 Ask (rGen X.P (Op.call { callee := Callee.value (Operand.func 124), args := #[Operand.tmp 16, Operand.tmp 19, Operand.tmp 20], argTypes := #[22, 22, 22] }) 199 [(16, x1), (19, x5), (20, x11)]) fun x13 =>
 Ask (rExt X.P x13 0) fun x14 =>
 Ask (rExt X.P x13 1) fun x15 =>
 Ask (rPlain x14) fun x16 =>
 Ask (rGen X.P (Op.call { callee := Callee.value (Operand.func 124), args := #[Operand.tmp 16, Operand.tmp 19, Operand.tmp 20], argTypes := #[22, 22, 22] }) 199 [(16, x2), (19, x6), (20, x15)]) fun x17 =>
 Ask (rExt X.P x17 0) fun x18 =>
 Ask (rExt X.P x17 1) fun x19 =>
 Ask (rPlain x18) fun x20 =>
 Ask (rGen X.P (Op.call { callee := Callee.value (Operand.func 124), args := #[Operand.tmp 16, Operand.tmp 19, Operand.tmp 20], argTypes := #[22, 22, 22] }) 199 [(16, x3), (19, x7), (20, x19)]) fun x21 =>
 Ask (rExt X.P x21 0) fun x22 =>
 Ask (rExt X.P x21 1) fun x23 =>
 Ask (rPlain x22) fun x24 =>
 Ask (rPlain x12) fun x25 =>
 Ask (rPlain x16) fun x26 =>
 Ask (rPlain x20) fun x27 =>
 Ask (rPlain x24) fun x28 =>
 Ret X X.w0 [b2, b3, b3, b3, b3] [] (.tuple #[(.agg #[x25, x26, x27, x28]), x23])) := by kernel_rfl
def ann101 : Ann := ⟨[], [], 70, [], [], none, [], []⟩
theorem vc101 (X : Ctx) (β : Nat → Nat) (x0 x1 x2 x3 x4 x5 x6 x7 x8 : Value) : (run Tryz.prog ann101 101 [.x (.v 8), .l [.v 0, .v 1, .v 2, .v 3], .l [.v 4, .v 5, .v 6, .v 7]] [] [] 10).den X (env0 [x0, x1, x2, x3, x4, x5, x6, x7, x8] X.w0) 10 β 0 (fun _ _ _ => False) = (
 AskNew X.w0 fun b0 =>
 AskNew X.w0 fun _ =>
 AskNew X.w0 fun b2 =>
 Ask (rBin X.P .and 22 false false x0 x8) fun x10 =>
 Ask (rBin X.P .andNot 22 false false x4 x8) fun x11 =>
 Ask (rBin X.P .or 22 false false x10 x11) fun x12 =>
 Ask (rPlain x12) fun x13 =>
 Ask (rBin X.P .and 22 false false x1 x8) fun x14 =>
 Ask (rBin X.P .andNot 22 false false x5 x8) fun x15 =>
 Ask (rBin X.P .or 22 false false x14 x15) fun x16 =>
 Ask (rPlain x16) fun x17 =>
 Ask (rBin X.P .and 22 false false x2 x8) fun x18 =>
 Ask (rBin X.P .andNot 22 false false x6 x8) fun x19 =>
 Ask (rBin X.P .or 22 false false x18 x19) fun x20 =>
 Ask (rPlain x20) fun x21 =>
 Ask (rBin X.P .and 22 false false x3 x8) fun x22 =>
 Ask (rBin X.P .andNot 22 false false x7 x8) fun x23 =>
 Ask (rBin X.P .or 22 false false x22 x23) fun x24 =>
 Ask (rPlain x24) fun x25 =>
 Ask (rPlain x13) fun x26 =>
 Ask (rPlain x17) fun x27 =>
 Ask (rPlain x21) fun x28 =>
 Ask (rPlain x25) fun x29 =>
 Ret X X.w0 [b2, b0, b0, b0, b0] [] (.agg #[x26, x27, x28, x29])) := by kernel_rfl
/-- Four limbs. -/
def L4 (a b c d : Nat) : Value := .agg #[U a, U b, U c, U d]
abbrev N4 (a b c d : Nat) : Nat := a + B64 * b + B64 ^ 2 * c + B64 ^ 3 * d
def lim (a b c d : Nat) : Prop := a < B64 ∧ b < B64 ∧ c < B64 ∧ d < B64
theorem sub_step {x y b : Nat} (hx : x < B64) (hy : y < B64) (hb : b ≤ 1) : ∃ d c, (x + B64 - y - b) % B64 = d ∧ (if x < y + b then 1 else 0) = c ∧ d < B64 ∧ c ≤ 1 ∧ d + y + b = x + c * B64 := by
  simp only [B64] at *
  refine ⟨_, _, rfl, rfl, ?_, ?_, ?_⟩
  · omega
  · split <;> omega
  · split <;> omega
def cMinus : Contract where
  pre args := ∃ a0 a1 a2 a3 b0 b1 b2 b3, args = [L4 a0 a1 a2 a3, L4 b0 b1 b2 b3] ∧ lim a0 a1 a2 a3 ∧ lim b0 b1 b2 b3
  post args v := ∀ a0 a1 a2 a3 b0 b1 b2 b3, args = [L4 a0 a1 a2 a3, L4 b0 b1 b2 b3] → ∃ d0 d1 d2 d3 c, v = .tuple #[L4 d0 d1 d2 d3, U c] ∧ lim d0 d1 d2 d3 ∧ c ≤ 1 ∧ N4 d0 d1 d2 d3 + N4 b0 b1 b2 b3 = N4 a0 a1 a2 a3 + c * B64 ^ 4
theorem U_inj {a b : Nat} (h : U a = U b) : a = b := by unfold U at h; simp at h; omega
theorem L4_inj {a b c d a' b' c' d' : Nat} (h : L4 a b c d = L4 a' b' c' d') : a = a' ∧ b = b' ∧ c = c' ∧ d = d' := by
  unfold L4 U at h; simp at h; omega
theorem keeps100 : Keeps1 Tryz.prog (fun _ => True) 100 cMinus := by
  refine keeps_pure (fun _ _ h => h) fun args w0 ⟨a0, a1, a2, a3, b0, b1, b2, b3, ha, ⟨h0, h1, h2, h3⟩, ⟨g0, g1, g2, g3⟩⟩ _ => ?_
  subst ha
  refine calls_pure (nb := 0) (A := ann100) (args := [.l [.v 0, .v 1, .v 2, .v 3], .l [.v 4, .v 5, .v 6, .v 7]]) (blocks := []) (gl := []) (ne := 9) (env := env0 [U a0, U a1, U a2, U a3, U b0, U b1, U b2, U b3] w0) (β := fun b => b) _ rfl rfl (by kernel_rfl) (AllKeep.none _ _) (fun _ _ _ => trivial) (fun f hf => by cases hf) (fun f hf => by cases hf)
    (fun X hX => by subst hX; exact mem0 rfl (fun k b h => by simp at h) (fun g k h => by simp at h)) fun X hP hS hw hR => ?_
  subst hw
  rw [vc100 X, hP]
  intro _ _ _ _ _ _ _ _
  obtain ⟨d0, c0, e0, f0, l0, m0, s0⟩ := sub_step h0 g0 (Nat.zero_le 1)
  obtain ⟨d1, c1, e1, f1, l1, m1, s1⟩ := sub_step h1 g1 m0
  obtain ⟨d2, c2, e2, f2, l2, m2, s2⟩ := sub_step h2 g2 m1
  obtain ⟨d3, c3, e3, f3, l3, m3, s3⟩ := sub_step h3 g3 m2
  rw [ask_sub64 (x := a0) (y := b0) (b := 0) sub64 (by simp [argsFn] <;> rfl) (Nat.zero_le _), e0, f0, ask_ext0, ask_ext1, ask_uplain]
  rw [ask_sub64 (x := a1) (y := b1) (b := c0) sub64 (by simp [argsFn] <;> rfl) m0, e1, f1, ask_ext0, ask_ext1, ask_uplain]
  rw [ask_sub64 (x := a2) (y := b2) (b := c1) sub64 (by simp [argsFn] <;> rfl) m1, e2, f2, ask_ext0, ask_ext1, ask_uplain]
  rw [ask_sub64 (x := a3) (y := b3) (b := c2) sub64 (by simp [argsFn] <;> rfl) m2, e3, f3, ask_ext0, ask_ext1, ask_uplain]
  rw [ask_uplain, ask_uplain, ask_uplain, ask_uplain]
  refine hR _ _ _ _ fun y0 y1 y2 y3 z0 z1 z2 z3 he => ?_
  simp only [List.cons.injEq, and_true] at he
  obtain ⟨rfl, rfl, rfl, rfl⟩ := L4_inj he.1
  obtain ⟨rfl, rfl, rfl, rfl⟩ := L4_inj he.2
  refine ⟨d0, d1, d2, d3, c3, rfl, ⟨l0, l1, l2, l3⟩, m3, ?_⟩
  simp only [N4, B64] at *
  omega
theorem add_step {x y b : Nat} (hx : x < B64) (hy : y < B64) (hb : b ≤ 1) : ∃ d c, (x + y + b) % B64 = d ∧ (x + y + b) / B64 = c ∧ d < B64 ∧ c ≤ 1 ∧ d + c * B64 = x + y + b := by
  simp only [B64] at *
  exact ⟨_, _, rfl, rfl, by omega, by omega, by omega⟩
def cPlus : Contract where
  pre args := ∃ a0 a1 a2 a3 b0 b1 b2 b3, args = [L4 a0 a1 a2 a3, L4 b0 b1 b2 b3] ∧ lim a0 a1 a2 a3 ∧ lim b0 b1 b2 b3
  post args v := ∀ a0 a1 a2 a3 b0 b1 b2 b3, args = [L4 a0 a1 a2 a3, L4 b0 b1 b2 b3] → ∃ d0 d1 d2 d3 c, v = .tuple #[L4 d0 d1 d2 d3, U c] ∧ lim d0 d1 d2 d3 ∧ c ≤ 1 ∧ N4 d0 d1 d2 d3 + c * B64 ^ 4 = N4 a0 a1 a2 a3 + N4 b0 b1 b2 b3
theorem keeps84 : Keeps1 Tryz.prog (fun _ => True) 84 cPlus := by
  refine keeps_pure (fun _ _ h => h) fun args w0 ⟨a0, a1, a2, a3, b0, b1, b2, b3, ha, ⟨h0, h1, h2, h3⟩, ⟨g0, g1, g2, g3⟩⟩ _ => ?_
  subst ha
  refine calls_pure (nb := 0) (A := ann84) (args := [.l [.v 0, .v 1, .v 2, .v 3], .l [.v 4, .v 5, .v 6, .v 7]]) (blocks := []) (gl := []) (ne := 9) (env := env0 [U a0, U a1, U a2, U a3, U b0, U b1, U b2, U b3] w0) (β := fun b => b) _ rfl rfl (by kernel_rfl) (AllKeep.none _ _) (fun _ _ _ => trivial) (fun f hf => by cases hf) (fun f hf => by cases hf)
    (fun X hX => by subst hX; exact mem0 rfl (fun k b h => by simp at h) (fun g k h => by simp at h)) fun X hP hS hw hR => ?_
  subst hw
  rw [vc84 X, hP]
  intro _ _ _ _ _ _ _ _
  obtain ⟨d0, c0, e0, f0, l0, m0, s0⟩ := add_step h0 g0 (Nat.zero_le 1)
  obtain ⟨d1, c1, e1, f1, l1, m1, s1⟩ := add_step h1 g1 m0
  obtain ⟨d2, c2, e2, f2, l2, m2, s2⟩ := add_step h2 g2 m1
  obtain ⟨d3, c3, e3, f3, l3, m3, s3⟩ := add_step h3 g3 m2
  rw [ask_add64 (x := a0) (y := b0) (c := 0) add64 (by simp [argsFn] <;> rfl) (Nat.zero_le _), e0, f0, ask_ext0, ask_ext1, ask_uplain]
  rw [ask_add64 (x := a1) (y := b1) (c := c0) add64 (by simp [argsFn] <;> rfl) m0, e1, f1, ask_ext0, ask_ext1, ask_uplain]
  rw [ask_add64 (x := a2) (y := b2) (c := c1) add64 (by simp [argsFn] <;> rfl) m1, e2, f2, ask_ext0, ask_ext1, ask_uplain]
  rw [ask_add64 (x := a3) (y := b3) (c := c2) add64 (by simp [argsFn] <;> rfl) m2, e3, f3, ask_ext0, ask_ext1, ask_uplain]
  rw [ask_uplain, ask_uplain, ask_uplain, ask_uplain]
  refine hR _ _ _ _ fun y0 y1 y2 y3 z0 z1 z2 z3 he => ?_
  simp only [List.cons.injEq, and_true] at he
  obtain ⟨rfl, rfl, rfl, rfl⟩ := L4_inj he.1
  obtain ⟨rfl, rfl, rfl, rfl⟩ := L4_inj he.2
  refine ⟨d0, d1, d2, d3, c3, rfl, ⟨l0, l1, l2, l3⟩, m3, ?_⟩
  simp only [N4, B64] at *
  omega
theorem and_ones {a : Nat} (ha : a < B64) : a &&& (B64 - 1) = a := by
  have := Nat.and_two_pow_sub_one_eq_mod a 64
  rw [show B64 - 1 = 2 ^ 64 - 1 from rfl, this, Nat.mod_eq_of_lt ha]
def cChoose : Contract where
  pre args := ∃ m a0 a1 a2 a3 b0 b1 b2 b3, args = [U m, L4 a0 a1 a2 a3, L4 b0 b1 b2 b3] ∧ (m = 0 ∨ m = B64 - 1) ∧ lim a0 a1 a2 a3 ∧ lim b0 b1 b2 b3
  post args v := ∀ m a0 a1 a2 a3 b0 b1 b2 b3, args = [U m, L4 a0 a1 a2 a3, L4 b0 b1 b2 b3] → v = if m = 0 then L4 b0 b1 b2 b3 else L4 a0 a1 a2 a3
theorem choose_step {a b m : Nat} (ha : a < B64) (hb : b < B64) (hm : m = 0 ∨ m = B64 - 1) : (a &&& m) ||| (b &&& (B64 - 1 - m)) = if m = 0 then b else a := by
  rcases hm with rfl | rfl
  · rw [if_pos rfl, Nat.and_zero, Nat.zero_or, Nat.sub_zero, and_ones hb]
  · rw [if_neg (by decide), and_ones ha, Nat.sub_self, Nat.and_zero, Nat.or_zero]
theorem keeps101 : Keeps1 Tryz.prog (fun _ => True) 101 cChoose := by
  refine keeps_pure (fun _ _ h => h) fun args w0 ⟨m, a0, a1, a2, a3, b0, b1, b2, b3, ha, hm, ⟨h0, h1, h2, h3⟩, ⟨g0, g1, g2, g3⟩⟩ _ => ?_
  subst ha
  refine calls_pure (nb := 0) (A := ann101) (args := [.x (.v 8), .l [.v 0, .v 1, .v 2, .v 3], .l [.v 4, .v 5, .v 6, .v 7]]) (blocks := []) (gl := []) (ne := 10) (env := env0 [U a0, U a1, U a2, U a3, U b0, U b1, U b2, U b3, U m] w0) (β := fun b => b) _ rfl rfl (by kernel_rfl) (AllKeep.none _ _) (fun _ _ _ => trivial) (fun f hf => by cases hf) (fun f hf => by cases hf)
    (fun X hX => by subst hX; exact mem0 rfl (fun k b h => by simp at h) (fun g k h => by simp at h)) fun X hP hS hw hR => ?_
  subst hw
  have hmb : m < B64 := by rcases hm with rfl | rfl <;> decide
  have lt : ∀ {x : Nat}, x < B64 → ∀ y, x &&& y < B64 := fun hx y => Nat.lt_of_le_of_lt Nat.and_le_left hx
  rw [vc101 X, hP]
  intro _ _ _ _ _ _
  rw [ask_uand h0 hmb, ask_uandNot g0 hmb, ask_uor (lt h0 _) (lt g0 _), choose_step h0 g0 hm, ask_uplain]
  rw [ask_uand h1 hmb, ask_uandNot g1 hmb, ask_uor (lt h1 _) (lt g1 _), choose_step h1 g1 hm, ask_uplain]
  rw [ask_uand h2 hmb, ask_uandNot g2 hmb, ask_uor (lt h2 _) (lt g2 _), choose_step h2 g2 hm, ask_uplain]
  rw [ask_uand h3 hmb, ask_uandNot g3 hmb, ask_uor (lt h3 _) (lt g3 _), choose_step h3 g3 hm, ask_uplain]
  rw [ask_uplain, ask_uplain, ask_uplain, ask_uplain]
  refine hR _ _ _ _ fun n y0 y1 y2 y3 z0 z1 z2 z3 he => ?_
  simp only [List.cons.injEq, and_true] at he
  obtain rfl := U_inj he.1
  obtain ⟨rfl, rfl, rfl, rfl⟩ := L4_inj he.2.1
  obtain ⟨rfl, rfl, rfl, rfl⟩ := L4_inj he.2.2
  by_cases hz : m = 0 <;> simp [hz, L4]
end Go.Vc

/-
  Seat D: scalar.lower, scalar.Scalar.Least keep their contracts, where scalar.table reads as it is laid.
-/
namespace Go.Vc
open Go Go.Proofs Go.RowKit
theorem Keeps1.weaken {P : Program} {G : World → Prop} {f : Nat} {c : Contract} (h : Keeps1 P (fun _ => True) f c) : Keeps1 P G f c :=
  ⟨fun args w hp _ => h.calls args w hp trivial, fun args w hp _ => h.callsW args w hp trivial⟩
def tabArr : Array Value := #[U 6346243789798364141, U 1503914060200516822, U 0, U 1152921504606846976, U 15486807595281847581, U 14334777244411350896, U 18446744073709551614, U 1152921504606846975,
  U 11819153939886771969, U 14991950615390032711, U 14910419812499177061, U 259310039853996605, U 6346243789798364139, U 1503914060200516822, U 0, U 1152921504606846976]
/-- scalar.table reads as it is laid. -/
def GT (w : World) : Prop := 0 < w.heap.size ∧ ∀ (i : Nat) (v : Value), tabArr[i]? = some v → w.cell? ⟨0, i, none⟩ = some v
theorem GT.stays {w0 w : World} (h : GT w0) (hs : ∀ b, b < w0.heap.size → w.heap[b]? = w0.heap[b]?) (hz : w0.heap.size ≤ w.heap.size) : GT w :=
  ⟨Nat.lt_of_lt_of_le h.1 hz, fun i v hi => by rw [World.cell?_of_block (w := w0) (hs 0 h.1)]; exact h.2 i v hi⟩
theorem memT {X : Ctx} {w0 : World} (hX : X.w0 = w0) (hg : GT w0) {k : Nat} {xs : List Value} (hl : xs.length = k) : Mem X ⟨true, k + 2 - 1, []⟩ [some ⟨.wh k, 16, 175, false⟩] [(0, 0)] (env0 (xs ++ [.agg tabArr]) w0) (fun b => b) w0 := by
  have he : (env0 (xs ++ [.agg tabArr]) w0 k).1 = .agg tabArr := by simp [env0, ← hl]
  subst hX
  refine mem0 rfl (fun j b h => ?_) (fun g k h => by simp at h; rw [h.1, h.2])
  cases j with
  | succ j => simp at h
  | zero =>
    simp at h
    subst h
    refine ⟨rfl, fun i v hi => ?_, ?_, ?_, hg.1⟩
    · simp only [Cont.den, he, aggArr] at hi
      exact hg.2 i v hi
    · simp only [Cont.den, he, aggArr]; rfl
    · simp only [Cont.ok, he, aggArr]
def ann85 : Ann := ⟨[], [100, 84, 85, 101, 71, 123], 70, [], [], none, [], []⟩
theorem vc85 (X : Ctx) (β : Nat → Nat) (x0 x1 x2 x3 x4 : Value) : (run Tryz.prog ann85 85 [.l [.v 0, .v 1, .v 2, .v 3]] [some ⟨.wh 4, 16, 175, false⟩] [(0, 0)] 6).den X (env0 [x0, x1, x2, x3, x4] X.w0) 6 β 1 (fun _ _ _ => False) = (
 AskNew X.w0 fun _ =>
 AskNew X.w0 fun b2 =>
 Ask (rSel (aggArr x4) 0 4 true) fun x6 =>
 AskF X 100 [(.agg #[x0, x1, x2, x3]), x6] fun x7 =>
 Ask (rExt X.P x7 0) fun x8 =>
 Ask (rExt X.P x7 1) fun x9 =>
 AskNew X.w0 fun b3 =>
 Ask (rAgg 4 x8) fun x10 =>
 Ask (rSel (aggArr x10) 0 1 false) fun x11 =>
 Ask (rSel (aggArr x10) 1 1 false) fun x12 =>
 Ask (rSel (aggArr x10) 2 1 false) fun x13 =>
 Ask (rSel (aggArr x10) 3 1 false) fun x14 =>
 Ask (rUn X.P .neg x9) fun x15 =>
 AskF X 101 [x15, (.agg #[x0, x1, x2, x3]), (.agg #[x11, x12, x13, x14])] fun x16 =>
 Ask (rAgg 4 x16) fun x17 =>
 Ask (rSel (aggArr x17) 0 1 false) fun x18 =>
 Ask (rSel (aggArr x17) 1 1 false) fun x19 =>
 Ask (rSel (aggArr x17) 2 1 false) fun x20 =>
 Ask (rSel (aggArr x17) 3 1 false) fun x21 =>
 Ret X X.w0 [b2, b3] [] (.agg #[x18, x19, x20, x21])) := by kernel_rfl
def lN : Nat := N4 6346243789798364141 1503914060200516822 0 1152921504606846976
def T1 : Table := Table.add (Table.add (Table.add (fun _ => {}) 100 cMinus) 84 cPlus) 101 cChoose
theorem keepT1 : AllKeep Tryz.prog GT T1 := (((AllKeep.none _ _).add keeps100.weaken).add keeps84.weaken).add keeps101.weaken
def cLower : Contract where
  pre args := ∃ a0 a1 a2 a3, args = [L4 a0 a1 a2 a3] ∧ lim a0 a1 a2 a3
  post args v := ∀ a0 a1 a2 a3, args = [L4 a0 a1 a2 a3] → ∃ d0 d1 d2 d3, v = L4 d0 d1 d2 d3 ∧ lim d0 d1 d2 d3 ∧ N4 d0 d1 d2 d3 = if N4 a0 a1 a2 a3 < lN then N4 a0 a1 a2 a3 else N4 a0 a1 a2 a3 - lN
theorem ask_L4 {K : Value → Prop} {a b c d : Nat} : Ask (rAgg 4 (L4 a b c d)) K = K (L4 a b c d) := ask_agg rfl (by simp [U, Value.oneCell'])
theorem ask_L40 {K : Value → Prop} {a b c d : Nat} : Ask (rSel (aggArr (L4 a b c d)) 0 1 false) K = K (U a) := ask_sel1 rfl
theorem ask_L41 {K : Value → Prop} {a b c d : Nat} : Ask (rSel (aggArr (L4 a b c d)) 1 1 false) K = K (U b) := ask_sel1 rfl
theorem ask_L42 {K : Value → Prop} {a b c d : Nat} : Ask (rSel (aggArr (L4 a b c d)) 2 1 false) K = K (U c) := ask_sel1 rfl
theorem ask_L43 {K : Value → Prop} {a b c d : Nat} : Ask (rSel (aggArr (L4 a b c d)) 3 1 false) K = K (U d) := ask_sel1 rfl
theorem ask_tab0 {K : Value → Prop} : Ask (rSel (aggArr (.agg tabArr)) 0 4 true) K = K (L4 6346243789798364141 1503914060200516822 0 1152921504606846976) :=
  ask_eq fun v => ⟨fun h => h.2, fun h => ⟨by decide, h⟩⟩
theorem keeps85 : Keeps1 Tryz.prog GT 85 cLower := by
  refine keeps_pure (fun _ _ h => h) fun args w0 ⟨a0, a1, a2, a3, ha, hlim⟩ hGT => ?_
  subst ha
  refine calls_pure (T := T1) (nb := 1) (A := ann85) (args := [.l [.v 0, .v 1, .v 2, .v 3]]) (blocks := [some ⟨.wh 4, 16, 175, false⟩]) (gl := [(0, 0)]) (ne := 6) (env := env0 ([U a0, U a1, U a2, U a3] ++ [.agg tabArr]) w0) (β := fun b => b) _ rfl rfl (by kernel_rfl) keepT1 (fun w h1 h2 => hGT.stays h1 h2)
    (fun f hf args w => by
      simp only [ann85, List.mem_cons, List.not_mem_nil, or_false] at hf
      rcases hf with rfl | rfl | rfl | rfl | rfl | rfl <;> kernel_rfl) (fun f hf => by cases hf)
    (fun X hX => memT (k := 4) (xs := [U a0, U a1, U a2, U a3]) hX hGT rfl) fun X hP hS hw hR => ?_
  subst hw
  simp only [List.cons_append, List.nil_append]
  rw [vc85 X, hP]; simp only [AskF, hS]
  intro _ _ _ _
  rw [ask_tab0]
  refine askC_intro ⟨a0, a1, a2, a3, _, _, _, _, rfl, hlim, by decide, by decide, by decide, by decide⟩ fun v hv => ?_
  obtain ⟨d0, d1, d2, d3, c, rfl, hd, hc, hN⟩ := hv a0 a1 a2 a3 _ _ _ _ rfl
  rw [ask_ext0, ask_ext1]
  intro _ _
  rw [ask_L4, ask_L40, ask_L41, ask_L42, ask_L43, ask_uneg (by simp only [B64]; omega)]
  have hmask : (B64 - c) % B64 = if c = 0 then 0 else B64 - 1 := by
    rcases Nat.le_one_iff_eq_zero_or_eq_one.1 hc with rfl | rfl <;> decide
  refine askC_intro ⟨(B64 - c) % B64, a0, a1, a2, a3, d0, d1, d2, d3, rfl, by rw [hmask]; split <;> simp, hlim, hd⟩ fun v hv => ?_
  have hv := hv _ a0 a1 a2 a3 d0 d1 d2 d3 rfl
  have hres : ∃ e0 e1 e2 e3, v = L4 e0 e1 e2 e3 ∧ lim e0 e1 e2 e3 ∧ N4 e0 e1 e2 e3 = if N4 a0 a1 a2 a3 < lN then N4 a0 a1 a2 a3 else N4 a0 a1 a2 a3 - lN := by
    obtain ⟨q0, q1, q2, q3⟩ := hd
    obtain ⟨p0, p1, p2, p3⟩ := hlim
    rcases Nat.le_one_iff_eq_zero_or_eq_one.1 hc with rfl | rfl
    · refine ⟨d0, d1, d2, d3, by simpa using hv, ⟨q0, q1, q2, q3⟩, ?_⟩
      have hx : ¬ N4 a0 a1 a2 a3 < lN := by unfold lN; simp only [N4, B64] at *; omega
      rw [if_neg hx]
      unfold lN
      simp only [N4, B64] at hN ⊢
      omega
    · refine ⟨a0, a1, a2, a3, by simpa using hv, ⟨p0, p1, p2, p3⟩, ?_⟩
      have hx : N4 a0 a1 a2 a3 < lN := by unfold lN; simp only [N4, B64] at *; omega
      rw [if_pos hx]
  obtain ⟨e0, e1, e2, e3, rfl, hle, hNe⟩ := hres
  rw [ask_L4, ask_L40, ask_L41, ask_L42, ask_L43]
  refine hR _ _ _ _ fun y0 y1 y2 y3 he => ?_
  simp only [List.cons.injEq, and_true] at he
  obtain ⟨rfl, rfl, rfl, rfl⟩ := L4_inj he
  exact ⟨e0, e1, e2, e3, rfl, hle, hNe⟩
#print axioms keeps85
end Go.Vc

/-
  Seat D: bits.Mul64 keeps its contract.
-/
namespace Go.Vc
open Go Go.Proofs Go.RowKit
def ann123 : Ann := ⟨[], [], 70, [], [], none, [], []⟩
theorem vc123 (X : Ctx) (β : Nat → Nat) (x0 x1 : Value) : (run Tryz.prog ann123 123 [.x (.v 0), .x (.v 1)] [] [] 3).den X (env0 [x0, x1] X.w0) 3 β 0 (fun _ _ _ => False) = (
 Ask (rBin X.P .and 22 false true x0 (U 4294967295)) fun x3 =>
 Ask (rBin X.P .shr 22 false true x0 (U 32)) fun x4 =>
 Ask (rBin X.P .and 22 false true x1 (U 4294967295)) fun x5 =>
 Ask (rBin X.P .shr 22 false true x1 (U 32)) fun x6 =>
 Ask (rBin X.P .mul 22 false false x3 x5) fun x7 =>
 Ask (rBin X.P .mul 22 false false x4 x5) fun x8 =>
 Ask (rBin X.P .shr 22 false true x7 (U 32)) fun x9 =>
 Ask (rBin X.P .add 22 false false x8 x9) fun x10 =>
 Ask (rBin X.P .and 22 false true x10 (U 4294967295)) fun x11 =>
 Ask (rBin X.P .shr 22 false true x10 (U 32)) fun x12 =>
 Ask (rBin X.P .mul 22 false false x3 x6) fun x13 =>
 Ask (rBin X.P .add 22 false false x11 x13) fun x14 =>
 Ask (rBin X.P .mul 22 false false x4 x6) fun x15 =>
 Ask (rBin X.P .add 22 false false x15 x12) fun x16 =>
 Ask (rBin X.P .shr 22 false true x14 (U 32)) fun x17 =>
 Ask (rBin X.P .add 22 false false x16 x17) fun x18 =>
 Ask (rBin X.P .mul 22 false false x0 x1) fun x19 =>
 Ret X X.w0 [] [] (.tuple #[x18, x19])) := by kernel_rfl
section
variable {P : Program} {K : Value → Prop} {t : TypeId} {cx cy : Bool} {a b : Nat}
theorem ask_umulS (h : a * b < B64) : Ask (rBin P .mul t cx cy (U a) (U b)) K = K (U (a * b)) := by rw [ask_umul, Nat.mod_eq_of_lt h]
theorem ask_uaddS (h : a + b < B64) : Ask (rBin P .add t cx cy (U a) (U b)) K = K (U (a + b)) := by rw [ask_uadd, Nat.mod_eq_of_lt h]
theorem ask_mask32 (ha : a < B64) : Ask (rBin P .and t cx cy (U a) (U 4294967295)) K = K (U (a % 4294967296)) := by
  have h := ask_uand (P := P) (K := K) (t := t) (cx := cx) (cy := cy) (a := a) (b := 4294967295) ha (by decide)
  have e : a &&& 4294967295 = a % 4294967296 := Nat.and_two_pow_sub_one_eq_mod a 32
  rw [e] at h
  exact h
theorem ask_shr32 : Ask (rBin P .shr t cx cy (U a) (U 32)) K = K (U (a / 4294967296)) :=
  ask_ushr (P := P) (K := K) (t := t) (cx := cx) (cy := cy) (a := a) (b := 32) (kd := .u64) (by decide)
end
def cMul64 : Contract where
  pre args := ∃ x y, args = [U x, U y] ∧ x < B64 ∧ y < B64
  post args v := ∀ x y, args = [U x, U y] → v = .tuple #[U (x * y / B64), U (x * y % B64)]
theorem keeps123 : Keeps1 Tryz.prog (fun _ => True) 123 cMul64 := by
  refine keeps_pure (fun _ _ h => h) fun args w0 ⟨x, y, ha, hx, hy⟩ _ => ?_
  subst ha
  refine calls_pure (nb := 0) (A := ann123) (args := [.x (.v 0), .x (.v 1)]) (blocks := []) (gl := []) (ne := 3) (env := env0 [U x, U y] w0) (β := fun b => b) _ rfl rfl (by kernel_rfl) (AllKeep.none _ _) (fun _ _ _ => trivial) (fun f hf => by cases hf) (fun f hf => by cases hf)
    (fun X hX => by subst hX; exact mem0 rfl (fun k b h => by simp at h) (fun g k h => by simp at h)) fun X hP hS hw hR => ?_
  subst hw
  rw [vc123 X, hP]
  obtain ⟨bd, bt, bw, hhi⟩ := Lib.mul64_hi x y hx hy
  have hB : B64 = 18446744073709551616 := rfl
  have ba := Lib.half_mul_le (a := x / 4294967296) (b := y / 4294967296) (by omega) (by omega)
  have bb := Lib.half_mul_le (a := x / 4294967296) (b := y % 4294967296) (by omega) (by omega)
  have bc := Lib.half_mul_le (a := x % 4294967296) (b := y / 4294967296) (by omega) (by omega)
  rw [ask_mask32 hx, ask_shr32, ask_mask32 hy, ask_shr32, ask_umulS bd, ask_umulS (by omega), ask_shr32, ask_uaddS bt, ask_mask32 bt, ask_shr32, ask_umulS (by omega), ask_uaddS bw, ask_umulS (by omega), ask_uaddS (by omega), ask_shr32, ask_uaddS (by omega), hhi, ask_umul]
  refine hR _ _ _ _ fun x' y' he => ?_
  simp only [List.cons.injEq, and_true] at he
  obtain rfl := U_inj he.1
  obtain rfl := U_inj he.2
  rfl
#print axioms keeps123
end Go.Vc

/-
  Seat D: scalar.Scalar.Least keeps its contract: the least limbs of the number modulo l.
-/
namespace Go.Vc
open Go Go.Proofs Go.RowKit
def ann71 : Ann := ⟨[], [100, 84, 85, 101, 71, 123], 70, [], [], none, [], []⟩
theorem vc71 (X : Ctx) (β : Nat → Nat) (x0 x1 x2 x3 x4 : Value) : (run Tryz.prog ann71 71 [.l [.v 0, .v 1, .v 2, .v 3]] [some ⟨.wh 4, 16, 175, false⟩] [(0, 0)] 6).den X (env0 [x0, x1, x2, x3, x4] X.w0) 6 β 1 (fun _ _ _ => False) = (
 AskNew X.w0 fun b1 =>
 AskNew X.w0 fun b2 =>
 Ask (rBin X.P .lss 22 false true x3 (U 1152921504606846976)) fun x6 =>
 (∃ t, x6 = .bool t) ∧ (x6 = .bool true →
 Ask (rPlain x0) fun x7 =>
 Ask (rPlain x1) fun x8 =>
 Ask (rPlain x2) fun x9 =>
 Ask (rPlain x3) fun x10 =>
 Ret X X.w0 [b2] [] (.agg #[x7, x8, x9, x10])) ∧ (x6 = .bool false →
 Ask (rBin X.P .shr 22 false true x3 (U 60)) fun x7 =>
 Ask (rBin X.P .and 22 false true x3 (U 1152921504606846975)) fun x8 =>
 Ask (rPlain x8) fun x9 =>
 AskNew X.w0 fun b3 =>
 Ask (rSel (aggArr x4) 0 1 false) fun x10 =>
 AskF X 123 [x7, x10] fun x11 =>
 Ask (rExt X.P x11 0) fun x12 =>
 Ask (rExt X.P x11 1) fun x13 =>
 Ask (rPlain x13) fun x14 =>
 Ask (rSel (aggArr x4) 1 1 false) fun x15 =>
 AskF X 123 [x7, x15] fun x16 =>
 Ask (rExt X.P x16 0) fun x17 =>
 Ask (rExt X.P x16 1) fun x18 =>
 Ask (rGen X.P (Op.call { callee := Callee.value (Operand.func 124), args := #[Operand.tmp 44, Operand.tmp 45, Operand.const (Value.int IntKind.u64 0)], argTypes := #[22, 22, 22] }) 199 [(44, x18), (45, x12)]) fun x19 =>
 Ask (rExt X.P x19 0) fun x20 =>
 Ask (rExt X.P x19 1) fun x21 =>
 Ask (rPlain x20) fun x22 =>
 Ask (rBin X.P .add 22 false false x17 x21) fun x23 =>
 Ask (rPlain x23) fun x24 =>
 AskF X 100 [(.agg #[x0, x1, x2, x9]), (.agg #[x14, x22, x24, (U 0)])] fun x25 =>
 Ask (rExt X.P x25 0) fun x26 =>
 Ask (rExt X.P x25 1) fun x27 =>
 AskNew X.w0 fun b4 =>
 Ask (rAgg 4 x26) fun x28 =>
 Ask (rSel (aggArr x28) 0 1 false) fun x29 =>
 Ask (rSel (aggArr x28) 1 1 false) fun x30 =>
 Ask (rSel (aggArr x28) 2 1 false) fun x31 =>
 Ask (rSel (aggArr x28) 3 1 false) fun x32 =>
 Ask (rSel (aggArr x4) 0 4 true) fun x33 =>
 AskF X 84 [(.agg #[x29, x30, x31, x32]), x33] fun x34 =>
 Ask (rExt X.P x34 0) fun x35 =>
 Ask (rExt X.P x34 1) fun _ =>
 AskNew X.w0 fun b5 =>
 Ask (rAgg 4 x35) fun x37 =>
 Ask (rSel (aggArr x37) 0 1 false) fun x38 =>
 Ask (rSel (aggArr x37) 1 1 false) fun x39 =>
 Ask (rSel (aggArr x37) 2 1 false) fun x40 =>
 Ask (rSel (aggArr x37) 3 1 false) fun x41 =>
 Ask (rUn X.P .neg x27) fun x42 =>
 AskF X 101 [x42, (.agg #[x38, x39, x40, x41]), (.agg #[x29, x30, x31, x32])] fun x43 =>
 AskF X 85 [x43] fun x44 =>
 Ask (rAgg 4 x44) fun x45 =>
 Ask (rSel (aggArr x45) 0 1 false) fun x46 =>
 Ask (rSel (aggArr x45) 1 1 false) fun x47 =>
 Ask (rSel (aggArr x45) 2 1 false) fun x48 =>
 Ask (rSel (aggArr x45) 3 1 false) fun x49 =>
 Ret X X.w0 [b2, b5, b4, b3, b3, b3, b1] [] (.agg #[x46, x47, x48, x49]))) := by kernel_rfl
def cLeast : Contract where
  pre args := ∃ a0 a1 a2 a3, args = [L4 a0 a1 a2 a3] ∧ lim a0 a1 a2 a3
  post args v := ∀ a0 a1 a2 a3, args = [L4 a0 a1 a2 a3] → ∃ d0 d1 d2 d3, v = L4 d0 d1 d2 d3 ∧ lim d0 d1 d2 d3 ∧ N4 d0 d1 d2 d3 = N4 a0 a1 a2 a3 % lN
def T2 : Table := Table.add (Table.add T1 123 cMul64) 85 cLower
theorem keepT2 : AllKeep Tryz.prog GT T2 := (keepT1.add keeps123.weaken).add keeps85
theorem ask_tab00 {K : Value → Prop} : Ask (rSel (aggArr (.agg tabArr)) 0 1 false) K = K (U 6346243789798364141) := ask_sel1 rfl
theorem ask_tab01 {K : Value → Prop} : Ask (rSel (aggArr (.agg tabArr)) 1 1 false) K = K (U 1503914060200516822) := ask_sel1 rfl
theorem qc_names {q : Nat} (hq : q < 16) : ∃ k0 k1 k2 hi lo2, k0 < B64 ∧ k1 < B64 ∧ k2 < B64 ∧ k0 + B64 * k1 + B64 ^ 2 * k2 = q * (6346243789798364141 + B64 * 1503914060200516822) ∧
    q * 6346243789798364141 / B64 = hi ∧ q * 6346243789798364141 % B64 = k0 ∧ q * 1503914060200516822 % B64 = lo2 ∧ (lo2 + hi) % B64 = k1 ∧ (q * 1503914060200516822 / B64 + (lo2 + hi) / B64) % B64 = k2 := by
  simp only [B64]
  refine ⟨_, _, _, _, _, ?_, ?_, ?_, ?_, rfl, rfl, rfl, rfl, rfl⟩ <;> omega
theorem least_lin {ND NE NK NL NA c' M c L B4 qM qL : Nat} (hN : ND + NK = NL + B4) (hM : NE + c' * B4 = ND + L) (hA : NL + qM = NA) (hL : L = M + c) (hqL : qL = qM + NK)
    (hD : ND < B4) (hE : NE < B4) (hc : c' ≤ 1) (hK : NK ≤ 15 * c) (hcM : 15 * c < M) : NE + qL = NA + L ∧ NE < 2 * L := by
  have h : c' = 0 ∨ c' = 1 := by omega
  rcases h with h | h
  · rw [h] at hM
    constructor <;> omega
  · rw [h] at hM
    constructor <;> omega
theorem N4_lt {a b c d : Nat} (h : lim a b c d) : N4 a b c d < B64 ^ 4 := by
  obtain ⟨h0, h1, h2, h3⟩ := h
  simp only [N4, B64] at *
  omega
theorem least_law {k0 k1 k2 q a0 a1 a2 a3 low d0 d1 d2 d3 e0 e1 e2 e3 c' : Nat} (hqc : k0 + B64 * k1 + B64 ^ 2 * k2 = q * (6346243789798364141 + B64 * 1503914060200516822)) (hsplit : 2 ^ 60 * q + low = a3) (hq : q < 16)
    (hd : lim d0 d1 d2 d3) (he : lim e0 e1 e2 e3) (hN : N4 d0 d1 d2 d3 + N4 k0 k1 k2 0 = N4 a0 a1 a2 low + 1 * B64 ^ 4)
    (hM : N4 e0 e1 e2 e3 + c' * B64 ^ 4 = N4 d0 d1 d2 d3 + N4 6346243789798364141 1503914060200516822 0 1152921504606846976) (hc' : c' ≤ 1) :
    N4 e0 e1 e2 e3 + q * lN = N4 a0 a1 a2 a3 + lN ∧ N4 e0 e1 e2 e3 < 2 * lN := by
  have hNK : N4 k0 k1 k2 0 = q * (6346243789798364141 + B64 * 1503914060200516822) := by rw [← hqc]; simp only [N4, Nat.mul_zero, Nat.add_zero]
  refine least_lin (ND := N4 d0 d1 d2 d3) (NK := N4 k0 k1 k2 0) (NL := N4 a0 a1 a2 low) (NA := N4 a0 a1 a2 a3) (L := lN) (M := B64 ^ 3 * 1152921504606846976) (c := 6346243789798364141 + B64 * 1503914060200516822) (B4 := B64 ^ 4) (qM := q * (B64 ^ 3 * 1152921504606846976)) (by rw [Nat.one_mul] at hN; exact hN) hM ?_ rfl ?_ (N4_lt hd) (N4_lt he) hc' ?_ (by decide)
  · rw [← hsplit]; simp only [N4]; grind
  · rw [hNK]; unfold lN; simp only [N4]; grind
  · rw [hNK]; exact Nat.mul_le_mul_right _ (by omega)
theorem callsA : ∀ f ∈ ann71.calls, ∀ (args : Array Value) (w : World), (callFunc f args).run Tryz.prog w = .ok (.enter f args) w := fun f hf args w => by
  simp only [ann71, List.mem_cons, List.not_mem_nil, or_false] at hf
  rcases hf with rfl | rfl | rfl | rfl | rfl | rfl <;> kernel_rfl
theorem keeps71 : Keeps1 Tryz.prog GT 71 cLeast := by
  refine keeps_pure (fun _ _ h => h) fun args w0 ⟨a0, a1, a2, a3, ha, hlim⟩ hGT => ?_
  subst ha
  refine calls_pure (T := T2) (nb := 1) (A := ann71) (args := [.l [.v 0, .v 1, .v 2, .v 3]]) (blocks := [some ⟨.wh 4, 16, 175, false⟩]) (gl := [(0, 0)]) (ne := 6) (env := env0 ([U a0, U a1, U a2, U a3] ++ [.agg tabArr]) w0) (β := fun b => b) _ rfl rfl (by kernel_rfl) keepT2 (fun w h1 h2 => hGT.stays h1 h2)
    callsA (fun f hf => by cases hf) (fun X hX => memT (k := 4) (xs := [U a0, U a1, U a2, U a3]) hX hGT rfl) fun X hP hS hw hR => ?_
  subst hw
  simp only [List.cons_append, List.nil_append]
  rw [vc71 X, hP]; simp only [AskF, hS]
  intro _ _ _ _
  obtain ⟨p0, p1, p2, p3⟩ := hlim
  have hB : B64 = 18446744073709551616 := rfl
  rw [ask_ulss]
  refine ⟨⟨_, rfl⟩, fun hlt => ?_, fun hge => ?_⟩
  · -- below 2^252
    simp only [Value.bool.injEq, decide_eq_true_eq] at hlt
    rw [ask_uplain, ask_uplain, ask_uplain, ask_uplain]
    refine hR _ _ _ _ fun y0 y1 y2 y3 he => ?_
    simp only [List.cons.injEq, and_true] at he
    obtain ⟨rfl, rfl, rfl, rfl⟩ := L4_inj he
    refine ⟨a0, a1, a2, a3, rfl, ⟨p0, p1, p2, p3⟩, (Nat.mod_eq_of_lt ?_).symm⟩
    unfold lN
    simp only [N4, B64] at *
    omega
  · simp only [Value.bool.injEq, decide_eq_false_iff_not] at hge
    have hq : a3 / 2 ^ 60 < 16 := by simp only [B64] at p3; omega
    have hlow : a3 % 2 ^ 60 < B64 := by simp only [B64]; omega
    have hmask : ∀ K : Value → Prop, Ask (rBin Tryz.prog .and 22 false true (U a3) (U 1152921504606846975)) K = K (U (a3 % 2 ^ 60)) := fun K => by
      have h := ask_uand (P := Tryz.prog) (K := K) (t := 22) (cx := false) (cy := true) (a := a3) (b := 1152921504606846975) p3 (by decide)
      have e : a3 &&& 1152921504606846975 = a3 % 2 ^ 60 := Nat.and_two_pow_sub_one_eq_mod a3 60
      rw [e] at h
      exact h
    have hshr : ∀ K : Value → Prop, Ask (rBin Tryz.prog .shr 22 false true (U a3) (U 60)) K = K (U (a3 / 2 ^ 60)) := fun K =>
      ask_ushr (P := Tryz.prog) (K := K) (t := 22) (cx := false) (cy := true) (a := a3) (b := 60) (kd := .u64) (by decide)
    rw [hshr, hmask, ask_uplain]
    intro _ _
    rw [ask_tab00]
    have hsplit := Nat.div_add_mod a3 (2 ^ 60)
    generalize a3 / 2 ^ 60 = q at hq hsplit ⊢
    obtain ⟨k0, k1, k2, hi, lo2, hk0l, hk1l, hk2l, hqc, e1, e2, e3, e4, e5⟩ := qc_names hq
    refine askC_intro ⟨q, _, rfl, by omega, by decide⟩ fun v hv => ?_
    obtain rfl := hv q _ rfl
    rw [ask_ext0, ask_ext1, ask_uplain, ask_tab01, e1, e2]
    refine askC_intro ⟨q, _, rfl, by omega, by decide⟩ fun v hv => ?_
    obtain rfl := hv q _ rfl
    rw [ask_ext0, ask_ext1, e3]
    rw [ask_add64 (x := lo2) (y := hi) (c := 0) add64 (by simp [argsFn] <;> rfl) (by decide), ask_ext0, ask_ext1, ask_uplain, Nat.add_zero, e4]
    rw [ask_uadd, ask_uplain, e5]
    have hlow60 : a3 % 2 ^ 60 < 2 ^ 60 := Nat.mod_lt _ (by decide)
    generalize hlo : a3 % 2 ^ 60 = low at hlow hsplit hlow60 ⊢
    refine askC_intro ⟨a0, a1, a2, low, k0, k1, k2, 0, rfl, ⟨p0, p1, p2, hlow⟩, ⟨hk0l, hk1l, hk2l, by decide⟩⟩ fun v hv => ?_
    obtain ⟨d0, d1, d2, d3, c, rfl, hd, hc, hN⟩ := hv a0 a1 a2 low k0 k1 k2 0 rfl
    rw [ask_ext0, ask_ext1]
    intro _ _
    rw [ask_L4, ask_L40, ask_L41, ask_L42, ask_L43, ask_tab0]
    refine askC_intro ⟨d0, d1, d2, d3, _, _, _, _, rfl, hd, by decide, by decide, by decide, by decide⟩ fun v hv => ?_
    obtain ⟨e0, e1, e2, e3, c', rfl, he, hc', hM⟩ := hv d0 d1 d2 d3 _ _ _ _ rfl
    rw [ask_ext0, ask_ext1]
    intro _ _
    rw [ask_L4, ask_L40, ask_L41, ask_L42, ask_L43, ask_uneg (by omega)]
    have hmk : (B64 - c) % B64 = if c = 0 then 0 else B64 - 1 := by
      rcases Nat.le_one_iff_eq_zero_or_eq_one.1 hc with rfl | rfl <;> decide
    refine askC_intro ⟨(B64 - c) % B64, e0, e1, e2, e3, d0, d1, d2, d3, rfl, by rw [hmk]; split <;> simp, he, hd⟩ fun v hv => ?_
    have hv := hv _ e0 e1 e2 e3 d0 d1 d2 d3 rfl
    have hg : ∃ g0 g1 g2 g3, v = L4 g0 g1 g2 g3 ∧ lim g0 g1 g2 g3 ∧ (N4 g0 g1 g2 g3 + q * lN = N4 a0 a1 a2 a3 ∨ N4 g0 g1 g2 g3 + q * lN = N4 a0 a1 a2 a3 + lN) ∧ N4 g0 g1 g2 g3 < 2 * lN := by
      obtain ⟨r0, r1, r2, r3⟩ := hd
      obtain ⟨s0, s1, s2, s3⟩ := he
      rcases Nat.le_one_iff_eq_zero_or_eq_one.1 hc with rfl | rfl
      · refine ⟨d0, d1, d2, d3, by simpa using hv, ⟨r0, r1, r2, r3⟩, .inl ?_, ?_⟩
        · unfold lN
          simp only [N4, B64] at hN hqc ⊢
          omega
        · unfold lN
          simp only [N4, B64] at hN hqc p0 p1 p2 ⊢
          omega
      · have hfact := least_law hqc hsplit hq ⟨r0, r1, r2, r3⟩ ⟨s0, s1, s2, s3⟩ hN hM hc'
        exact ⟨e0, e1, e2, e3, by simpa using hv, ⟨s0, s1, s2, s3⟩, .inr hfact.1, hfact.2⟩
    obtain ⟨g0, g1, g2, g3, rfl, hgl, hgq, hg2⟩ := hg
    refine askC_intro ⟨g0, g1, g2, g3, rfl, hgl⟩ fun v hv => ?_
    obtain ⟨h0, h1, h2, h3, rfl, hhl, hH⟩ := hv g0 g1 g2 g3 rfl
    rw [ask_L4, ask_L40, ask_L41, ask_L42, ask_L43]
    refine hR _ _ _ _ fun y0 y1 y2 y3 he => ?_
    simp only [List.cons.injEq, and_true] at he
    obtain ⟨rfl, rfl, rfl, rfl⟩ := L4_inj he
    refine ⟨h0, h1, h2, h3, rfl, hhl, ?_⟩
    generalize N4 h0 h1 h2 h3 = H at hH ⊢
    generalize N4 g0 g1 g2 g3 = Gn at hH hgq hg2
    generalize N4 a0 a1 a2 a3 = An at hgq ⊢
    have hlp : 0 < lN := by decide
    generalize lN = ll at *
    have hHl : H < ll := by rw [hH]; split <;> omega
    have hHm : H % ll = Gn % ll := by
      rw [hH]
      split
      · rfl
      · rw [← Nat.mod_eq_sub_mod (by omega)]
    have hGA : Gn % ll = An % ll := by
      rcases hgq with h | h
      · rw [← h, Nat.add_mul_mod_self_right]
      · have h1 : (Gn + q * ll) % ll = (An + ll) % ll := by rw [h]
        rw [Nat.add_mul_mod_self_right, Nat.add_mod_right] at h1
        exact h1
    rw [← hGA, ← hHm, Nat.mod_eq_of_lt hHl]
#print axioms keeps71
end Go.Vc
