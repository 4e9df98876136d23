/-
  Seat D: the scalar layer's small functions keep their contracts.
-/
import Derived.Test.YtoakfcihcmmihaaDoorVcU64
import Derived.KernelRfl
import Derived.Test.YtoakfcihcmmihaaDoorProg
namespace Go.Vc
open Go Go.Proofs Go.RowKit

theorem sub64 (x y b : Nat) (hb : b ≤ 1) (w : World) : (callFunc 105 #[U x, U y, U b]).run Tryd.prog w = .ok (.value (.tuple #[U ((x + B64 - y - b) % B64), U (if x < y + b then 1 else 0)])) w := by
  unfold U
  rw [run_callFunc_extern Tryd.func105 (by kernel_rfl) (by kernel_rfl) (by kernel_rfl) (e := sub64Entry) (by kernel_rfl), run_sub64 x y b hb]
  rfl

theorem add64 (x y c : Nat) (hc : c ≤ 1) (w : World) : (callFunc 69 #[U x, U y, U c]).run Tryd.prog w = .ok (.value (.tuple #[U ((x + y + c) % B64), U ((x + y + c) / B64)])) w := by
  unfold U
  rw [run_callFunc_extern Tryd.func69 (by kernel_rfl) (by kernel_rfl) (by kernel_rfl) (e := add64Entry) (by kernel_rfl), run_add64 x y c (by omega) (by omega) (by omega) (by omega)]
  simp only [Result.andThen, B64]
  congr 5


def ann70 : Ann := ⟨[], [], 70, [], [], none, []⟩
theorem vc70 (X : Ctx) (β : Nat → Nat) (x0 x1 x2 x3 x4 x5 x6 x7 : Value) : (run Tryd.prog ann70 70 [.l [.v 0, .v 1, .v 2, .v 3], .l [.v 4, .v 5, .v 6, .v 7]] [] [] 9).den X (env0 [x0, x1, x2, x3, x4, x5, x6, x7] X.w0) 9 β 0 (fun _ _ _ => False) = (
  AskNew X.w0 fun _ =>
  AskNew X.w0 fun _ =>
  AskNew X.w0 fun b2 =>
  AskNew X.w0 fun b3 =>
  Ask (rGen X.P (Go.Op.call { callee := Go.Callee.value (Go.Operand.func 105), args := #[Go.Operand.tmp 16, Go.Operand.tmp 19, Go.Operand.tmp 20], argTypes := #[22, 22, 22] }) 128 [(16, x0), (19, x4), (20, (U 0))]) fun x9 =>
  Ask (rExt X.P x9 0) fun x10 =>
  Ask (rExt X.P x9 1) fun x11 =>
  Ask (rPlain x10) fun x12 =>
  Ask (rGen X.P (Go.Op.call { callee := Go.Callee.value (Go.Operand.func 105), args := #[Go.Operand.tmp 16, Go.Operand.tmp 19, Go.Operand.tmp 20], argTypes := #[22, 22, 22] }) 128 [(16, x1), (19, x5), (20, x11)]) fun x13 =>
  Ask (rExt X.P x13 0) fun x14 =>
  Ask (rExt X.P x13 1) fun x15 =>
  Ask (rPlain x14) fun x16 =>
  Ask (rGen X.P (Go.Op.call { callee := Go.Callee.value (Go.Operand.func 105), args := #[Go.Operand.tmp 16, Go.Operand.tmp 19, Go.Operand.tmp 20], argTypes := #[22, 22, 22] }) 128 [(16, x2), (19, x6), (20, x15)]) fun x17 =>
  Ask (rExt X.P x17 0) fun x18 =>
  Ask (rExt X.P x17 1) fun x19 =>
  Ask (rPlain x18) fun x20 =>
  Ask (rGen X.P (Go.Op.call { callee := Go.Callee.value (Go.Operand.func 105), args := #[Go.Operand.tmp 16, Go.Operand.tmp 19, Go.Operand.tmp 20], argTypes := #[22, 22, 22] }) 128 [(16, x3), (19, x7), (20, x19)]) fun x21 =>
  Ask (rExt X.P x21 0) fun x22 =>
  Ask (rExt X.P x21 1) fun x23 =>
  Ask (rPlain x22) fun x24 =>
  Ask (rPlain x12) fun x25 =>
  Ask (rPlain x16) fun x26 =>
  Ask (rPlain x20) fun x27 =>
  Ask (rPlain x24) fun x28 =>
  Ret X X.w0 [b2, b3, b3, b3, b3] [] (.tuple #[(.agg #[x25, x26, x27, x28]), x23])) := by kernel_rfl

def ann71 : Ann := ⟨[], [], 70, [], [], none, []⟩
theorem vc71 (X : Ctx) (β : Nat → Nat) (x0 x1 x2 x3 x4 x5 x6 x7 : Value) : (run Tryd.prog ann71 71 [.l [.v 0, .v 1, .v 2, .v 3], .l [.v 4, .v 5, .v 6, .v 7]] [] [] 9).den X (env0 [x0, x1, x2, x3, x4, x5, x6, x7] X.w0) 9 β 0 (fun _ _ _ => False) = (
  AskNew X.w0 fun _ =>
  AskNew X.w0 fun _ =>
  AskNew X.w0 fun b2 =>
  AskNew X.w0 fun b3 =>
  Ask (rGen X.P (Go.Op.call { callee := Go.Callee.value (Go.Operand.func 69), args := #[Go.Operand.tmp 16, Go.Operand.tmp 19, Go.Operand.tmp 20], argTypes := #[22, 22, 22] }) 128 [(16, x0), (19, x4), (20, (U 0))]) fun x9 =>
  Ask (rExt X.P x9 0) fun x10 =>
  Ask (rExt X.P x9 1) fun x11 =>
  Ask (rPlain x10) fun x12 =>
  Ask (rGen X.P (Go.Op.call { callee := Go.Callee.value (Go.Operand.func 69), args := #[Go.Operand.tmp 16, Go.Operand.tmp 19, Go.Operand.tmp 20], argTypes := #[22, 22, 22] }) 128 [(16, x1), (19, x5), (20, x11)]) fun x13 =>
  Ask (rExt X.P x13 0) fun x14 =>
  Ask (rExt X.P x13 1) fun x15 =>
  Ask (rPlain x14) fun x16 =>
  Ask (rGen X.P (Go.Op.call { callee := Go.Callee.value (Go.Operand.func 69), args := #[Go.Operand.tmp 16, Go.Operand.tmp 19, Go.Operand.tmp 20], argTypes := #[22, 22, 22] }) 128 [(16, x2), (19, x6), (20, x15)]) fun x17 =>
  Ask (rExt X.P x17 0) fun x18 =>
  Ask (rExt X.P x17 1) fun x19 =>
  Ask (rPlain x18) fun x20 =>
  Ask (rGen X.P (Go.Op.call { callee := Go.Callee.value (Go.Operand.func 69), args := #[Go.Operand.tmp 16, Go.Operand.tmp 19, Go.Operand.tmp 20], argTypes := #[22, 22, 22] }) 128 [(16, x3), (19, x7), (20, x19)]) fun x21 =>
  Ask (rExt X.P x21 0) fun x22 =>
  Ask (rExt X.P x21 1) fun x23 =>
  Ask (rPlain x22) fun x24 =>
  Ask (rPlain x12) fun x25 =>
  Ask (rPlain x16) fun x26 =>
  Ask (rPlain x20) fun x27 =>
  Ask (rPlain x24) fun x28 =>
  Ret X X.w0 [b2, b3, b3, b3, b3] [] (.tuple #[(.agg #[x25, x26, x27, x28]), x23])) := by kernel_rfl

def ann73 : Ann := ⟨[], [], 70, [], [], none, []⟩
theorem vc73 (X : Ctx) (β : Nat → Nat) (x0 x1 x2 x3 x4 x5 x6 x7 x8 : Value) : (run Tryd.prog ann73 73 [.x (.v 8), .l [.v 0, .v 1, .v 2, .v 3], .l [.v 4, .v 5, .v 6, .v 7]] [] [] 10).den X (env0 [x0, x1, x2, x3, x4, x5, x6, x7, x8] X.w0) 10 β 0 (fun _ _ _ => False) = (
  AskNew X.w0 fun b0 =>
  AskNew X.w0 fun _ =>
  AskNew X.w0 fun b2 =>
  Ask (rBin X.P .and 22 false false x0 x8) fun x10 =>
  Ask (rBin X.P .andNot 22 false false x4 x8) fun x11 =>
  Ask (rBin X.P .or 22 false false x10 x11) fun x12 =>
  Ask (rPlain x12) fun x13 =>
  Ask (rBin X.P .and 22 false false x1 x8) fun x14 =>
  Ask (rBin X.P .andNot 22 false false x5 x8) fun x15 =>
  Ask (rBin X.P .or 22 false false x14 x15) fun x16 =>
  Ask (rPlain x16) fun x17 =>
  Ask (rBin X.P .and 22 false false x2 x8) fun x18 =>
  Ask (rBin X.P .andNot 22 false false x6 x8) fun x19 =>
  Ask (rBin X.P .or 22 false false x18 x19) fun x20 =>
  Ask (rPlain x20) fun x21 =>
  Ask (rBin X.P .and 22 false false x3 x8) fun x22 =>
  Ask (rBin X.P .andNot 22 false false x7 x8) fun x23 =>
  Ask (rBin X.P .or 22 false false x22 x23) fun x24 =>
  Ask (rPlain x24) fun x25 =>
  Ask (rPlain x13) fun x26 =>
  Ask (rPlain x17) fun x27 =>
  Ask (rPlain x21) fun x28 =>
  Ask (rPlain x25) fun x29 =>
  Ret X X.w0 [b2, b0, b0, b0, b0] [] (.agg #[x26, x27, x28, x29])) := by kernel_rfl

/-- Four limbs. -/
def L4 (a b c d : Nat) : Value := .agg #[U a, U b, U c, U d]
abbrev N4 (a b c d : Nat) : Nat := a + B64 * b + B64 ^ 2 * c + B64 ^ 3 * d
def lim (a b c d : Nat) : Prop := a < B64 ∧ b < B64 ∧ c < B64 ∧ d < B64

theorem sub_step {x y b : Nat} (hx : x < B64) (hy : y < B64) (hb : b ≤ 1) : ∃ d c, (x + B64 - y - b) % B64 = d ∧ (if x < y + b then 1 else 0) = c ∧ d < B64 ∧ c ≤ 1 ∧ d + y + b = x + c * B64 := by
  simp only [B64] at *
  refine ⟨_, _, rfl, rfl, ?_, ?_, ?_⟩
  · omega
  · split <;> omega
  · split <;> omega

def cMinus : Contract where
  pre args := ∃ a0 a1 a2 a3 b0 b1 b2 b3, args = [L4 a0 a1 a2 a3, L4 b0 b1 b2 b3] ∧ lim a0 a1 a2 a3 ∧ lim b0 b1 b2 b3
  post args v := ∀ a0 a1 a2 a3 b0 b1 b2 b3, args = [L4 a0 a1 a2 a3, L4 b0 b1 b2 b3] → ∃ d0 d1 d2 d3 c, v = .tuple #[L4 d0 d1 d2 d3, U c] ∧ lim d0 d1 d2 d3 ∧ c ≤ 1 ∧ N4 d0 d1 d2 d3 + N4 b0 b1 b2 b3 = N4 a0 a1 a2 a3 + c * B64 ^ 4

theorem U_inj {a b : Nat} (h : U a = U b) : a = b := by unfold U at h; simp at h; omega
theorem L4_inj {a b c d a' b' c' d' : Nat} (h : L4 a b c d = L4 a' b' c' d') : a = a' ∧ b = b' ∧ c = c' ∧ d = d' := by
  unfold L4 U at h; simp at h; omega

theorem keeps70 : Keeps1 Tryd.prog (fun _ => True) 70 cMinus := by
  refine keeps_pure (fun _ _ h => h) fun args w0 ⟨a0, a1, a2, a3, b0, b1, b2, b3, ha, ⟨h0, h1, h2, h3⟩, ⟨g0, g1, g2, g3⟩⟩ _ => ?_
  subst ha
  refine calls_pure (nb := 0) (A := ann70) (args := [.l [.v 0, .v 1, .v 2, .v 3], .l [.v 4, .v 5, .v 6, .v 7]]) (blocks := []) (gl := []) (ne := 9) (env := env0 [U a0, U a1, U a2, U a3, U b0, U b1, U b2, U b3] w0) (β := fun b => b) _ rfl rfl (by kernel_rfl) (AllKeep.none _ _) (fun _ _ _ => trivial) (fun f hf => by cases hf) (fun f hf => by cases hf)
    (fun X hX => by subst hX; exact mem0 rfl (fun k b h => by simp at h) (fun g k h => by simp at h)) fun X hP hS hw hR => ?_
  subst hw
  rw [vc70 X, hP]
  intro _ _ _ _ _ _ _ _
  obtain ⟨d0, c0, e0, f0, l0, m0, s0⟩ := sub_step h0 g0 (Nat.zero_le 1)
  obtain ⟨d1, c1, e1, f1, l1, m1, s1⟩ := sub_step h1 g1 m0
  obtain ⟨d2, c2, e2, f2, l2, m2, s2⟩ := sub_step h2 g2 m1
  obtain ⟨d3, c3, e3, f3, l3, m3, s3⟩ := sub_step h3 g3 m2
  rw [ask_sub64 (x := a0) (y := b0) (b := 0) sub64 (by simp [argsFn] <;> rfl) (Nat.zero_le _), e0, f0, ask_ext0, ask_ext1, ask_uplain]
  rw [ask_sub64 (x := a1) (y := b1) (b := c0) sub64 (by simp [argsFn] <;> rfl) m0, e1, f1, ask_ext0, ask_ext1, ask_uplain]
  rw [ask_sub64 (x := a2) (y := b2) (b := c1) sub64 (by simp [argsFn] <;> rfl) m1, e2, f2, ask_ext0, ask_ext1, ask_uplain]
  rw [ask_sub64 (x := a3) (y := b3) (b := c2) sub64 (by simp [argsFn] <;> rfl) m2, e3, f3, ask_ext0, ask_ext1, ask_uplain]
  rw [ask_uplain, ask_uplain, ask_uplain, ask_uplain]
  refine hR _ _ _ _ fun y0 y1 y2 y3 z0 z1 z2 z3 he => ?_
  simp only [List.cons.injEq, and_true] at he
  obtain ⟨rfl, rfl, rfl, rfl⟩ := L4_inj he.1
  obtain ⟨rfl, rfl, rfl, rfl⟩ := L4_inj he.2
  refine ⟨d0, d1, d2, d3, c3, rfl, ⟨l0, l1, l2, l3⟩, m3, ?_⟩
  simp only [N4, B64] at *
  omega

theorem add_step {x y b : Nat} (hx : x < B64) (hy : y < B64) (hb : b ≤ 1) : ∃ d c, (x + y + b) % B64 = d ∧ (x + y + b) / B64 = c ∧ d < B64 ∧ c ≤ 1 ∧ d + c * B64 = x + y + b := by
  simp only [B64] at *
  exact ⟨_, _, rfl, rfl, by omega, by omega, by omega⟩

def cPlus : Contract where
  pre args := ∃ a0 a1 a2 a3 b0 b1 b2 b3, args = [L4 a0 a1 a2 a3, L4 b0 b1 b2 b3] ∧ lim a0 a1 a2 a3 ∧ lim b0 b1 b2 b3
  post args v := ∀ a0 a1 a2 a3 b0 b1 b2 b3, args = [L4 a0 a1 a2 a3, L4 b0 b1 b2 b3] → ∃ d0 d1 d2 d3 c, v = .tuple #[L4 d0 d1 d2 d3, U c] ∧ lim d0 d1 d2 d3 ∧ c ≤ 1 ∧ N4 d0 d1 d2 d3 + c * B64 ^ 4 = N4 a0 a1 a2 a3 + N4 b0 b1 b2 b3

theorem keeps71 : Keeps1 Tryd.prog (fun _ => True) 71 cPlus := by
  refine keeps_pure (fun _ _ h => h) fun args w0 ⟨a0, a1, a2, a3, b0, b1, b2, b3, ha, ⟨h0, h1, h2, h3⟩, ⟨g0, g1, g2, g3⟩⟩ _ => ?_
  subst ha
  refine calls_pure (nb := 0) (A := ann71) (args := [.l [.v 0, .v 1, .v 2, .v 3], .l [.v 4, .v 5, .v 6, .v 7]]) (blocks := []) (gl := []) (ne := 9) (env := env0 [U a0, U a1, U a2, U a3, U b0, U b1, U b2, U b3] w0) (β := fun b => b) _ rfl rfl (by kernel_rfl) (AllKeep.none _ _) (fun _ _ _ => trivial) (fun f hf => by cases hf) (fun f hf => by cases hf)
    (fun X hX => by subst hX; exact mem0 rfl (fun k b h => by simp at h) (fun g k h => by simp at h)) fun X hP hS hw hR => ?_
  subst hw
  rw [vc71 X, hP]
  intro _ _ _ _ _ _ _ _
  obtain ⟨d0, c0, e0, f0, l0, m0, s0⟩ := add_step h0 g0 (Nat.zero_le 1)
  obtain ⟨d1, c1, e1, f1, l1, m1, s1⟩ := add_step h1 g1 m0
  obtain ⟨d2, c2, e2, f2, l2, m2, s2⟩ := add_step h2 g2 m1
  obtain ⟨d3, c3, e3, f3, l3, m3, s3⟩ := add_step h3 g3 m2
  rw [ask_add64 (x := a0) (y := b0) (c := 0) add64 (by simp [argsFn] <;> rfl) (Nat.zero_le _), e0, f0, ask_ext0, ask_ext1, ask_uplain]
  rw [ask_add64 (x := a1) (y := b1) (c := c0) add64 (by simp [argsFn] <;> rfl) m0, e1, f1, ask_ext0, ask_ext1, ask_uplain]
  rw [ask_add64 (x := a2) (y := b2) (c := c1) add64 (by simp [argsFn] <;> rfl) m1, e2, f2, ask_ext0, ask_ext1, ask_uplain]
  rw [ask_add64 (x := a3) (y := b3) (c := c2) add64 (by simp [argsFn] <;> rfl) m2, e3, f3, ask_ext0, ask_ext1, ask_uplain]
  rw [ask_uplain, ask_uplain, ask_uplain, ask_uplain]
  refine hR _ _ _ _ fun y0 y1 y2 y3 z0 z1 z2 z3 he => ?_
  simp only [List.cons.injEq, and_true] at he
  obtain ⟨rfl, rfl, rfl, rfl⟩ := L4_inj he.1
  obtain ⟨rfl, rfl, rfl, rfl⟩ := L4_inj he.2
  refine ⟨d0, d1, d2, d3, c3, rfl, ⟨l0, l1, l2, l3⟩, m3, ?_⟩
  simp only [N4, B64] at *
  omega

theorem and_ones {a : Nat} (ha : a < B64) : a &&& (B64 - 1) = a := by
  have := Nat.and_two_pow_sub_one_eq_mod a 64
  rw [show B64 - 1 = 2 ^ 64 - 1 from rfl, this, Nat.mod_eq_of_lt ha]

def cChoose : Contract where
  pre args := ∃ m a0 a1 a2 a3 b0 b1 b2 b3, args = [U m, L4 a0 a1 a2 a3, L4 b0 b1 b2 b3] ∧ (m = 0 ∨ m = B64 - 1) ∧ lim a0 a1 a2 a3 ∧ lim b0 b1 b2 b3
  post args v := ∀ m a0 a1 a2 a3 b0 b1 b2 b3, args = [U m, L4 a0 a1 a2 a3, L4 b0 b1 b2 b3] → v = if m = 0 then L4 b0 b1 b2 b3 else L4 a0 a1 a2 a3

theorem choose_step {a b m : Nat} (ha : a < B64) (hb : b < B64) (hm : m = 0 ∨ m = B64 - 1) : (a &&& m) ||| (b &&& (B64 - 1 - m)) = if m = 0 then b else a := by
  rcases hm with rfl | rfl
  · rw [if_pos rfl, Nat.and_zero, Nat.zero_or, Nat.sub_zero, and_ones hb]
  · rw [if_neg (by decide), and_ones ha, Nat.sub_self, Nat.and_zero, Nat.or_zero]

theorem keeps73 : Keeps1 Tryd.prog (fun _ => True) 73 cChoose := by
  refine keeps_pure (fun _ _ h => h) fun args w0 ⟨m, a0, a1, a2, a3, b0, b1, b2, b3, ha, hm, ⟨h0, h1, h2, h3⟩, ⟨g0, g1, g2, g3⟩⟩ _ => ?_
  subst ha
  refine calls_pure (nb := 0) (A := ann73) (args := [.x (.v 8), .l [.v 0, .v 1, .v 2, .v 3], .l [.v 4, .v 5, .v 6, .v 7]]) (blocks := []) (gl := []) (ne := 10) (env := env0 [U a0, U a1, U a2, U a3, U b0, U b1, U b2, U b3, U m] w0) (β := fun b => b) _ rfl rfl (by kernel_rfl) (AllKeep.none _ _) (fun _ _ _ => trivial) (fun f hf => by cases hf) (fun f hf => by cases hf)
    (fun X hX => by subst hX; exact mem0 rfl (fun k b h => by simp at h) (fun g k h => by simp at h)) fun X hP hS hw hR => ?_
  subst hw
  have hmb : m < B64 := by rcases hm with rfl | rfl <;> decide
  have lt : ∀ {x : Nat}, x < B64 → ∀ y, x &&& y < B64 := fun hx y => Nat.lt_of_le_of_lt Nat.and_le_left hx
  rw [vc73 X, hP]
  intro _ _ _ _ _ _
  rw [ask_uand h0 hmb, ask_uandNot g0 hmb, ask_uor (lt h0 _) (lt g0 _), choose_step h0 g0 hm, ask_uplain]
  rw [ask_uand h1 hmb, ask_uandNot g1 hmb, ask_uor (lt h1 _) (lt g1 _), choose_step h1 g1 hm, ask_uplain]
  rw [ask_uand h2 hmb, ask_uandNot g2 hmb, ask_uor (lt h2 _) (lt g2 _), choose_step h2 g2 hm, ask_uplain]
  rw [ask_uand h3 hmb, ask_uandNot g3 hmb, ask_uor (lt h3 _) (lt g3 _), choose_step h3 g3 hm, ask_uplain]
  rw [ask_uplain, ask_uplain, ask_uplain, ask_uplain]
  refine hR _ _ _ _ fun n y0 y1 y2 y3 z0 z1 z2 z3 he => ?_
  simp only [List.cons.injEq, and_true] at he
  obtain rfl := U_inj he.1
  obtain ⟨rfl, rfl, rfl, rfl⟩ := L4_inj he.2.1
  obtain ⟨rfl, rfl, rfl, rfl⟩ := L4_inj he.2.2
  by_cases hz : m = 0 <;> simp [hz, L4]
end Go.Vc
