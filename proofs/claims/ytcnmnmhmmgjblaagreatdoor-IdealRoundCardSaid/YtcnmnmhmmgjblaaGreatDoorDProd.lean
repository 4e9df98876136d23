/-
  The program's products: into, product, Mul by numbers.
-/
import Derived.Test.YtcnmnmhmmgjblaaGreatDoorDSc
namespace Go.Vc
open Go Go.Proofs Go.RowKit
/-! ### x y + z + c -/
abbrev enc4 (p : Nat × Nat × Nat × Nat) : List Value := [U p.1, U p.2.1, U p.2.2.1, U p.2.2.2]
abbrev dom4 (p : Nat × Nat × Nat × Nat) : Prop := p.1 < B64 ∧ p.2.1 < B64 ∧ p.2.2.1 < B64 ∧ p.2.2.2 < B64
theorem inj4 (a b : Nat × Nat × Nat × Nat) (_ : dom4 a) (_ : dom4 b) (h : enc4 a = enc4 b) : a = b := by
  simp only [enc4, List.cons.injEq, and_true] at h
  exact Prod.ext (U_inj' h.1) (Prod.ext (U_inj' h.2.1) (Prod.ext (U_inj' h.2.2.1) (U_inj' h.2.2.2)))
abbrev encUU (p : Nat × Nat) : List Value := [U p.1, U p.2]
def cMul64S : Contract := fnP encUU (fun p => p.1 < B64 ∧ p.2 < B64) (fun p v => v = .tuple #[U (p.1 * p.2 / B64), U (p.1 * p.2 % B64)])
theorem keepsMul64 : Keeps1 Tryz.prog GT 123 cMul64S := keeps123.weaken.imp (fun args ⟨⟨x, y⟩, ⟨hx, hy⟩, e⟩ => ⟨⟨x, y, e, hx, hy⟩, fun v hv ⟨x', y'⟩ _ e' => by
    obtain rfl := hv _ _ e'
    rfl⟩) (fun _ _ h => h)
def ann128 : Ann := ⟨[], [123], 70, [], [], none, [], []⟩
theorem vc128 (X : Ctx) (β : Nat → Nat) (x0 x1 x2 x3 : Value) : (run Tryz.prog ann128 128 [.x (.v 0), .x (.v 1), .x (.v 2), .x (.v 3)] [] [] 5).den X (env0 [x0, x1, x2, x3] X.w0) 5 β 0 (fun _ _ _ => False) = (
 AskF X 123 [x0, x1] fun x5 =>
 Ask (rExt X.P x5 0) fun x6 =>
 Ask (rExt X.P x5 1) fun x7 =>
 Ask (rGen X.P (Op.call { callee := Callee.value (Operand.func 124), args := #[Operand.tmp 20, Operand.tmp 21, Operand.const (Value.int IntKind.u64 0)], argTypes := #[22, 22, 22] }) 199 [(20, x7), (21, x2)]) fun x8 =>
 Ask (rExt X.P x8 0) fun x9 =>
 Ask (rExt X.P x8 1) fun x10 =>
 Ask (rBin X.P .add 22 false false x6 x10) fun x11 =>
 Ask (rGen X.P (Op.call { callee := Callee.value (Operand.func 124), args := #[Operand.tmp 29, Operand.tmp 30, Operand.const (Value.int IntKind.u64 0)], argTypes := #[22, 22, 22] }) 199 [(29, x9), (30, x3)]) fun x12 =>
 Ask (rExt X.P x12 0) fun x13 =>
 Ask (rExt X.P x12 1) fun x14 =>
 Ask (rBin X.P .add 22 false false x11 x14) fun x15 =>
 Ret X X.w0 [] [] (.tuple #[x13, x15])) := by kernel_rfl
def cIntoS : Contract := fnP enc4 dom4 (fun p v => v = .tuple #[U ((p.1 * p.2.1 + p.2.2.1 + p.2.2.2) % B64), U ((p.1 * p.2.1 + p.2.2.1 + p.2.2.2) / B64)])
def Tin : Table := T0.add 123 cMul64S
theorem keepTin : AllKeep Tryz.prog GT Tin := keepT0.add keepsMul64
theorem mul_le {x y : Nat} (hx : x < B64) (hy : y < B64) : x * y ≤ (B64 - 1) * (B64 - 1) := Nat.mul_le_mul (by omega) (by omega)
theorem into_law {p z c : Nat} (hp : p ≤ (B64 - 1) * (B64 - 1)) (hz : z < B64) (hc : c < B64) :
    ((p % B64 + z + 0) % B64 + c + 0) % B64 = (p + z + c) % B64 ∧ ((p / B64 + (p % B64 + z + 0) / B64) % B64 + ((p % B64 + z + 0) % B64 + c + 0) / B64) % B64 = (p + z + c) / B64 := by
  simp only [B64] at *
  omega
theorem keepsInto : Keeps1 Tryz.prog GT 128 cIntoS := by
  refine keepsP (T := Tin) (A := ann128) inj4 hMix keepTin hGT (fun f hf => by
      simp only [ann128, List.mem_cons, List.not_mem_nil, or_false] at hf
      subst hf; intros; kernel_rfl) (fun f hf => by cases hf) fun ⟨x, y, z, c⟩ w0 ⟨hx, hy, hz, hc⟩ _ => ⟨[.x (.v 0), .x (.v 1), .x (.v 2), .x (.v 3)], [], [], 5, env0 [U x, U y, U z, U c] w0, fun b => b, 0, rfl, rfl, fun X hX => mem_none hX rfl, fun X hP hS hw hX hR => ?_⟩
  subst hw; dsimp only at hx hy hz hc hR
  rw [vc128 X, hP]
  refine call_PE hS (T := Tin) (f := 123) rfl (x, y) ⟨hx, hy⟩ ?_
  dsimp only
  obtain ⟨e1, e2⟩ := into_law (mul_le hx hy) hz hc
  rw [ask_ext0, ask_ext1, ask_add64 (x := x * y % B64) (y := z) (c := 0) add64 (by simp [argsFn]; rfl) (Nat.zero_le _), ask_ext0, ask_ext1, ask_uadd,
    ask_add64 (x := (x * y % B64 + z + 0) % B64) (y := c) (c := 0) add64 (by simp [argsFn]; rfl) (Nat.zero_le _), ask_ext0, ask_ext1, ask_uadd, e1, e2]
  exact hR _ _ _ _ rfl
/-! ### a round -/
def ng : Nat := 15183074304973897243
theorem ng_law (u : Nat) : (u * ng % B64 * 6346243789798364141 + u) % B64 = 0 := by
  have h1 : (u * ng % B64 * 6346243789798364141 + u) % B64 = (u * (ng * 6346243789798364141 + 1)) % B64 := by
    rw [Nat.add_mod, Nat.mul_mod, Nat.mod_mod, ← Nat.mul_mod, ← Nat.add_mod, Nat.mul_add, Nat.mul_one, Nat.mul_assoc]
  rw [h1, show ng * 6346243789798364141 + 1 = B64 * 5223441634630489179 from by decide, Nat.mul_left_comm, Nat.mul_mod_right]
abbrev l0 : Nat := 6346243789798364141
abbrev l1 : Nat := 1503914060200516822
abbrev l3 : Nat := 1152921504606846976
theorem sum_lin {T P Q u0 u1 u2 u3 u4 k c0 c1 c2 c3 d0 d1 d2 d3 k2 r0 r1 r2 r3 t0 t1 t2 t3 p0 p1 p2 p3 q0 q1 q2 q3 : Nat} (hT : t0 + B64 * t1 + B64 ^ 2 * t2 + B64 ^ 3 * t3 = T) (hP : p0 + B64 * p1 + B64 ^ 2 * p2 + B64 ^ 3 * p3 = P) (hQ : q0 + B64 * q1 + B64 ^ 2 * q2 + B64 ^ 3 * q3 = Q)
    (h0 : u0 + B64 * c0 = p0 + t0) (h1 : u1 + B64 * c1 = p1 + t1 + c0) (h2 : u2 + B64 * c2 = p2 + t2 + c1) (h3 : u3 + B64 * c3 = p3 + t3 + c2) (h4 : u4 + B64 * k = c3)
    (g0 : B64 * d0 = q0 + u0) (g1 : r0 + B64 * d1 = q1 + u1 + d0) (g2 : r1 + B64 * d2 = q2 + u2 + d1) (g3 : r2 + B64 * d3 = q3 + u3 + d2) (g4 : r3 + B64 * k2 = u4 + d3) :
    B64 * (r0 + B64 * r1 + B64 ^ 2 * r2 + B64 ^ 3 * r3 + B64 ^ 4 * (k + k2)) = T + P + Q := by
  simp only [B64] at *
  omega
theorem ng_law2 {u m z : Nat} (hm : u * 15183074304973897243 % B64 = m) (hz : (m * l0 + u + 0) % B64 = z) : z = 0 := by
  have h := ng_law u
  rw [show ng = 15183074304973897243 from rfl, hm] at h
  rw [← hz, Nat.add_zero]
  exact h
theorem round_fin {A b m T u0 u1 u2 u3 u4 k c0 c1 c2 c3 d0 d1 d2 d3 k2 r0 r1 r2 r3 a0 a1 a2 a3 t0 t1 t2 t3 z : Nat} (hA : a0 + B64 * a1 + B64 ^ 2 * a2 + B64 ^ 3 * a3 = A) (hAl : A < lN) (hb : b < B64) (hm : m < B64)
    (hT : t0 + B64 * t1 + B64 ^ 2 * t2 + B64 ^ 3 * t3 = T) (hTl : T < 2 * lN) (hz : z = 0)
    (h0 : u0 + B64 * c0 = a0 * b + t0 + 0) (h1 : u1 + B64 * c1 = a1 * b + t1 + c0) (h2 : u2 + B64 * c2 = a2 * b + t2 + c1) (h3 : u3 + B64 * c3 = a3 * b + t3 + c2) (h4 : u4 + B64 * k = 0 + c3 + 0)
    (g0 : z + B64 * d0 = m * l0 + u0 + 0) (g1 : r0 + B64 * d1 = m * l1 + u1 + d0) (g2 : r1 + B64 * d2 = m * 0 + u2 + d1) (g3 : r2 + B64 * d3 = m * l3 + u3 + d2) (g4 : r3 + B64 * k2 = u4 + d3 + 0) :
    (k + k2) % B64 = 0 ∧ r0 + B64 * r1 + B64 ^ 2 * r2 + B64 ^ 3 * r3 < 2 * lN ∧ B64 * (r0 + B64 * r1 + B64 ^ 2 * r2 + B64 ^ 3 * r3) = T + A * b + m * lN := by
  have hP : a0 * b + B64 * (a1 * b) + B64 ^ 2 * (a2 * b) + B64 ^ 3 * (a3 * b) = A * b := by
    rw [← hA]; simp only [Nat.add_mul, Nat.mul_assoc]
  have hQ : m * l0 + B64 * (m * l1) + B64 ^ 2 * (m * 0) + B64 ^ 3 * (m * l3) = m * lN := by
    show _ = m * (l0 + B64 * l1 + B64 ^ 2 * 0 + B64 ^ 3 * l3)
    simp only [Nat.mul_add, Nat.mul_left_comm]
  have h := sum_lin hT hP hQ h0 h1 h2 h3 (show u4 + B64 * k = c3 by omega) (show B64 * d0 = m * l0 + u0 by omega) g1 g2 g3 (show r3 + B64 * k2 = u4 + d3 by omega)
  have b1 : A * b ≤ lN * (B64 - 1) := Nat.mul_le_mul (by omega) (by omega)
  have b2 : m * lN ≤ lN * (B64 - 1) := by rw [Nat.mul_comm]; exact Nat.mul_le_mul (Nat.le_refl _) (by omega)
  have hlt : B64 * (r0 + B64 * r1 + B64 ^ 2 * r2 + B64 ^ 3 * r3 + B64 ^ 4 * (k + k2)) < B64 * (2 * lN) := by
    rw [h]
    have e : B64 * (2 * lN) = 2 * lN + (lN * (B64 - 1) + lN * (B64 - 1)) := by decide
    omega
  have hlt2 := Nat.lt_of_mul_lt_mul_left hlt
  have hk : k + k2 = 0 := by
    rcases Nat.eq_zero_or_pos (k + k2) with h | h
    · exact h
    · exfalso
      have e : B64 ^ 4 * 1 ≤ B64 ^ 4 * (k + k2) := Nat.mul_le_mul (Nat.le_refl _) h
      have e2 : 2 * lN < B64 ^ 4 * 1 := by decide
      omega
  rw [hk] at hlt2 h ⊢
  simp only [Nat.mul_zero, Nat.add_zero] at hlt2 h
  exact ⟨rfl, hlt2, h⟩
def Tpr : Table := (T0.add 128 cIntoS).add 85 cLowerS
theorem keepTpr : AllKeep Tryz.prog GT Tpr := (keepT0.add keepsInto).add keepsLower
theorem a_into {X : Ctx} {K : Value → Prop} (hS : X.S = Tpr.spec) {x y z c : Nat} (hx : x < B64) (hy : y < B64) (hz : z < B64) (hc : c < B64) (h : ∀ u k, (x * y + z + c) % B64 = u → u < B64 → k < B64 → u + B64 * k = x * y + z + c → K (.tuple #[U u, U k])) : AskF X 128 [U x, U y, U z, U c] K := by
  refine call_PE hS (T := Tpr) (f := 128) rfl (x, y, z, c) ⟨hx, hy, hz, hc⟩ ?_
  have hp := mul_le hx hy
  have hu : (x * y + z + c) % B64 < B64 := Nat.mod_lt _ (by decide)
  have hk : (x * y + z + c) / B64 < B64 := by simp only [B64] at *; omega
  exact h _ _ rfl hu hk (Nat.mod_add_div _ _)
theorem add_names (x y : Nat) (hx : x < B64) (hy : y < B64) : ∃ u k, (x + y + 0) % B64 = u ∧ (x + y + 0) / B64 = k ∧ u < B64 ∧ k < B64 ∧ u + B64 * k = x + y + 0 :=
  ⟨_, _, rfl, rfl, Nat.mod_lt _ (by decide), by simp only [B64] at *; omega, Nat.mod_add_div _ _⟩
/-- 1 / 2^256 modulo l. -/
def Ri : Nat := 4458503529701987551646482192314240623644693141688353256590997718326214331684
theorem prod_lin {A n b0 b1 b2 b3 m0 m1 m2 m3 R1 R2 R3 R4 : Nat} (hn : b0 + B64 * b1 + B64 ^ 2 * b2 + B64 ^ 3 * b3 = n) (h0 : B64 * R1 = 0 + A * b0 + m0 * lN) (h1 : B64 * R2 = R1 + A * b1 + m1 * lN) (h2 : B64 * R3 = R2 + A * b2 + m2 * lN) (h3 : B64 * R4 = R3 + A * b3 + m3 * lN) (hR : R4 < 2 * lN) :
    low R4 = A * n * Ri % lN := by
  have e : B64 ^ 4 * R4 = A * n + (m0 + B64 * m1 + B64 ^ 2 * m2 + B64 ^ 3 * m3) * lN := by
    have hA : A * n = A * b0 + B64 * (A * b1) + B64 ^ 2 * (A * b2) + B64 ^ 3 * (A * b3) := by rw [← hn]; simp only [Nat.mul_add, Nat.mul_left_comm]
    have hM : (m0 + B64 * m1 + B64 ^ 2 * m2 + B64 ^ 3 * m3) * lN = m0 * lN + B64 * (m1 * lN) + B64 ^ 2 * (m2 * lN) + B64 ^ 3 * (m3 * lN) := by simp only [Nat.add_mul, Nat.mul_assoc]
    rw [hA, hM]
    generalize A * b0 = p0 at *; generalize A * b1 = p1 at *; generalize A * b2 = p2 at *; generalize A * b3 = p3 at *
    generalize m0 * lN = q0 at *; generalize m1 * lN = q1 at *; generalize m2 * lN = q2 at *; generalize m3 * lN = q3 at *
    simp only [B64] at *
    omega
  rw [low_mod hR]
  have h4 : (B64 ^ 4 * R4) * Ri % lN = A * n * Ri % lN := by
    rw [e, Nat.add_mul, Nat.mul_right_comm _ lN Ri, Nat.add_mul_mod_self_right]
  rw [← h4, Nat.mul_right_comm, Nat.mul_mod, show B64 ^ 4 * Ri % lN = 1 by decide, Nat.one_mul, Nat.mod_mod]
def ann102 : Ann := ⟨[], [128, 85], 70, [], [], none, [], []⟩
theorem vc102 (X : Ctx) (β : Nat → Nat) (x0 x1 x2 x3 x4 x5 x6 x7 x8 : Value) : (run Tryz.prog ann102 102 [.l [.v 0, .v 1, .v 2, .v 3], .l [.v 4, .v 5, .v 6, .v 7]] [some ⟨.wh 8, 16, 175, false⟩] [(0, 0)] 10).den X (env0 [x0, x1, x2, x3, x4, x5, x6, x7, x8] X.w0) 10 β 1 (fun _ _ _ => False) = (
 AskNew X.w0 fun _ =>
 AskNew X.w0 fun _ =>
 AskNew X.w0 fun b3 =>
 AskNew X.w0 fun b4 =>
 AskF X 128 [x0, x4, (U 0), (U 0)] fun x10 =>
 Ask (rExt X.P x10 0) fun x11 =>
 Ask (rExt X.P x10 1) fun x12 =>
 Ask (rPlain x11) fun x13 =>
 AskF X 128 [x1, x4, (U 0), x12] fun x14 =>
 Ask (rExt X.P x14 0) fun x15 =>
 Ask (rExt X.P x14 1) fun x16 =>
 Ask (rPlain x15) fun x17 =>
 AskF X 128 [x2, x4, (U 0), x16] fun x18 =>
 Ask (rExt X.P x18 0) fun x19 =>
 Ask (rExt X.P x18 1) fun x20 =>
 Ask (rPlain x19) fun x21 =>
 AskF X 128 [x3, x4, (U 0), x20] fun x22 =>
 Ask (rExt X.P x22 0) fun x23 =>
 Ask (rExt X.P x22 1) fun x24 =>
 Ask (rPlain x23) fun x25 =>
 Ask (rGen X.P (Op.call { callee := Callee.value (Operand.func 124), args := #[Operand.tmp 38, Operand.tmp 39, Operand.const (Value.int IntKind.u64 0)], argTypes := #[22, 22, 22] }) 199 [(38, (U 0)), (39, x24)]) fun x26 =>
 Ask (rExt X.P x26 0) fun x27 =>
 Ask (rExt X.P x26 1) fun x28 =>
 Ask (rPlain x27) fun x29 =>
 Ask (rBin X.P .mul 22 false true x13 (U 15183074304973897243)) fun x30 =>
 Ask (rSel (aggArr x8) 0 1 false) fun x31 =>
 AskF X 128 [x30, x31, x13, (U 0)] fun x32 =>
 Ask (rExt X.P x32 0) fun _ =>
 Ask (rExt X.P x32 1) fun x34 =>
 Ask (rSel (aggArr x8) 1 1 false) fun x35 =>
 AskF X 128 [x30, x35, x17, x34] fun x36 =>
 Ask (rExt X.P x36 0) fun x37 =>
 Ask (rExt X.P x36 1) fun x38 =>
 Ask (rPlain x37) fun x39 =>
 Ask (rSel (aggArr x8) 2 1 false) fun x40 =>
 AskF X 128 [x30, x40, x21, x38] fun x41 =>
 Ask (rExt X.P x41 0) fun x42 =>
 Ask (rExt X.P x41 1) fun x43 =>
 Ask (rPlain x42) fun x44 =>
 Ask (rSel (aggArr x8) 3 1 false) fun x45 =>
 AskF X 128 [x30, x45, x25, x43] fun x46 =>
 Ask (rExt X.P x46 0) fun x47 =>
 Ask (rExt X.P x46 1) fun x48 =>
 Ask (rPlain x47) fun x49 =>
 Ask (rGen X.P (Op.call { callee := Callee.value (Operand.func 124), args := #[Operand.tmp 80, Operand.tmp 81, Operand.const (Value.int IntKind.u64 0)], argTypes := #[22, 22, 22] }) 199 [(80, x29), (81, x48)]) fun x50 =>
 Ask (rExt X.P x50 0) fun x51 =>
 Ask (rExt X.P x50 1) fun x52 =>
 Ask (rPlain x51) fun x53 =>
 Ask (rBin X.P .add 22 false false x28 x52) fun x54 =>
 Ask (rPlain x54) fun x55 =>
 AskF X 128 [x0, x5, x39, (U 0)] fun x56 =>
 Ask (rExt X.P x56 0) fun x57 =>
 Ask (rExt X.P x56 1) fun x58 =>
 Ask (rPlain x57) fun x59 =>
 AskF X 128 [x1, x5, x44, x58] fun x60 =>
 Ask (rExt X.P x60 0) fun x61 =>
 Ask (rExt X.P x60 1) fun x62 =>
 Ask (rPlain x61) fun x63 =>
 AskF X 128 [x2, x5, x49, x62] fun x64 =>
 Ask (rExt X.P x64 0) fun x65 =>
 Ask (rExt X.P x64 1) fun x66 =>
 Ask (rPlain x65) fun x67 =>
 AskF X 128 [x3, x5, x53, x66] fun x68 =>
 Ask (rExt X.P x68 0) fun x69 =>
 Ask (rExt X.P x68 1) fun x70 =>
 Ask (rPlain x69) fun x71 =>
 Ask (rGen X.P (Op.call { callee := Callee.value (Operand.func 124), args := #[Operand.tmp 38, Operand.tmp 39, Operand.const (Value.int IntKind.u64 0)], argTypes := #[22, 22, 22] }) 199 [(38, x55), (39, x70)]) fun x72 =>
 Ask (rExt X.P x72 0) fun x73 =>
 Ask (rExt X.P x72 1) fun x74 =>
 Ask (rPlain x73) fun x75 =>
 Ask (rBin X.P .mul 22 false true x59 (U 15183074304973897243)) fun x76 =>
 Ask (rSel (aggArr x8) 0 1 false) fun x77 =>
 AskF X 128 [x76, x77, x59, (U 0)] fun x78 =>
 Ask (rExt X.P x78 0) fun _ =>
 Ask (rExt X.P x78 1) fun x80 =>
 Ask (rSel (aggArr x8) 1 1 false) fun x81 =>
 AskF X 128 [x76, x81, x63, x80] fun x82 =>
 Ask (rExt X.P x82 0) fun x83 =>
 Ask (rExt X.P x82 1) fun x84 =>
 Ask (rPlain x83) fun x85 =>
 Ask (rSel (aggArr x8) 2 1 false) fun x86 =>
 AskF X 128 [x76, x86, x67, x84] fun x87 =>
 Ask (rExt X.P x87 0) fun x88 =>
 Ask (rExt X.P x87 1) fun x89 =>
 Ask (rPlain x88) fun x90 =>
 Ask (rSel (aggArr x8) 3 1 false) fun x91 =>
 AskF X 128 [x76, x91, x71, x89] fun x92 =>
 Ask (rExt X.P x92 0) fun x93 =>
 Ask (rExt X.P x92 1) fun x94 =>
 Ask (rPlain x93) fun x95 =>
 Ask (rGen X.P (Op.call { callee := Callee.value (Operand.func 124), args := #[Operand.tmp 80, Operand.tmp 81, Operand.const (Value.int IntKind.u64 0)], argTypes := #[22, 22, 22] }) 199 [(80, x75), (81, x94)]) fun x96 =>
 Ask (rExt X.P x96 0) fun x97 =>
 Ask (rExt X.P x96 1) fun x98 =>
 Ask (rPlain x97) fun x99 =>
 Ask (rBin X.P .add 22 false false x74 x98) fun x100 =>
 Ask (rPlain x100) fun x101 =>
 AskF X 128 [x0, x6, x85, (U 0)] fun x102 =>
 Ask (rExt X.P x102 0) fun x103 =>
 Ask (rExt X.P x102 1) fun x104 =>
 Ask (rPlain x103) fun x105 =>
 AskF X 128 [x1, x6, x90, x104] fun x106 =>
 Ask (rExt X.P x106 0) fun x107 =>
 Ask (rExt X.P x106 1) fun x108 =>
 Ask (rPlain x107) fun x109 =>
 AskF X 128 [x2, x6, x95, x108] fun x110 =>
 Ask (rExt X.P x110 0) fun x111 =>
 Ask (rExt X.P x110 1) fun x112 =>
 Ask (rPlain x111) fun x113 =>
 AskF X 128 [x3, x6, x99, x112] fun x114 =>
 Ask (rExt X.P x114 0) fun x115 =>
 Ask (rExt X.P x114 1) fun x116 =>
 Ask (rPlain x115) fun x117 =>
 Ask (rGen X.P (Op.call { callee := Callee.value (Operand.func 124), args := #[Operand.tmp 38, Operand.tmp 39, Operand.const (Value.int IntKind.u64 0)], argTypes := #[22, 22, 22] }) 199 [(38, x101), (39, x116)]) fun x118 =>
 Ask (rExt X.P x118 0) fun x119 =>
 Ask (rExt X.P x118 1) fun x120 =>
 Ask (rPlain x119) fun x121 =>
 Ask (rBin X.P .mul 22 false true x105 (U 15183074304973897243)) fun x122 =>
 Ask (rSel (aggArr x8) 0 1 false) fun x123 =>
 AskF X 128 [x122, x123, x105, (U 0)] fun x124 =>
 Ask (rExt X.P x124 0) fun _ =>
 Ask (rExt X.P x124 1) fun x126 =>
 Ask (rSel (aggArr x8) 1 1 false) fun x127 =>
 AskF X 128 [x122, x127, x109, x126] fun x128 =>
 Ask (rExt X.P x128 0) fun x129 =>
 Ask (rExt X.P x128 1) fun x130 =>
 Ask (rPlain x129) fun x131 =>
 Ask (rSel (aggArr x8) 2 1 false) fun x132 =>
 AskF X 128 [x122, x132, x113, x130] fun x133 =>
 Ask (rExt X.P x133 0) fun x134 =>
 Ask (rExt X.P x133 1) fun x135 =>
 Ask (rPlain x134) fun x136 =>
 Ask (rSel (aggArr x8) 3 1 false) fun x137 =>
 AskF X 128 [x122, x137, x117, x135] fun x138 =>
 Ask (rExt X.P x138 0) fun x139 =>
 Ask (rExt X.P x138 1) fun x140 =>
 Ask (rPlain x139) fun x141 =>
 Ask (rGen X.P (Op.call { callee := Callee.value (Operand.func 124), args := #[Operand.tmp 80, Operand.tmp 81, Operand.const (Value.int IntKind.u64 0)], argTypes := #[22, 22, 22] }) 199 [(80, x121), (81, x140)]) fun x142 =>
 Ask (rExt X.P x142 0) fun x143 =>
 Ask (rExt X.P x142 1) fun x144 =>
 Ask (rPlain x143) fun x145 =>
 Ask (rBin X.P .add 22 false false x120 x144) fun x146 =>
 Ask (rPlain x146) fun x147 =>
 AskF X 128 [x0, x7, x131, (U 0)] fun x148 =>
 Ask (rExt X.P x148 0) fun x149 =>
 Ask (rExt X.P x148 1) fun x150 =>
 Ask (rPlain x149) fun x151 =>
 AskF X 128 [x1, x7, x136, x150] fun x152 =>
 Ask (rExt X.P x152 0) fun x153 =>
 Ask (rExt X.P x152 1) fun x154 =>
 Ask (rPlain x153) fun x155 =>
 AskF X 128 [x2, x7, x141, x154] fun x156 =>
 Ask (rExt X.P x156 0) fun x157 =>
 Ask (rExt X.P x156 1) fun x158 =>
 Ask (rPlain x157) fun x159 =>
 AskF X 128 [x3, x7, x145, x158] fun x160 =>
 Ask (rExt X.P x160 0) fun x161 =>
 Ask (rExt X.P x160 1) fun x162 =>
 Ask (rPlain x161) fun x163 =>
 Ask (rGen X.P (Op.call { callee := Callee.value (Operand.func 124), args := #[Operand.tmp 38, Operand.tmp 39, Operand.const (Value.int IntKind.u64 0)], argTypes := #[22, 22, 22] }) 199 [(38, x147), (39, x162)]) fun x164 =>
 Ask (rExt X.P x164 0) fun x165 =>
 Ask (rExt X.P x164 1) fun x166 =>
 Ask (rPlain x165) fun x167 =>
 Ask (rBin X.P .mul 22 false true x151 (U 15183074304973897243)) fun x168 =>
 Ask (rSel (aggArr x8) 0 1 false) fun x169 =>
 AskF X 128 [x168, x169, x151, (U 0)] fun x170 =>
 Ask (rExt X.P x170 0) fun _ =>
 Ask (rExt X.P x170 1) fun x172 =>
 Ask (rSel (aggArr x8) 1 1 false) fun x173 =>
 AskF X 128 [x168, x173, x155, x172] fun x174 =>
 Ask (rExt X.P x174 0) fun x175 =>
 Ask (rExt X.P x174 1) fun x176 =>
 Ask (rPlain x175) fun x177 =>
 Ask (rSel (aggArr x8) 2 1 false) fun x178 =>
 AskF X 128 [x168, x178, x159, x176] fun x179 =>
 Ask (rExt X.P x179 0) fun x180 =>
 Ask (rExt X.P x179 1) fun x181 =>
 Ask (rPlain x180) fun x182 =>
 Ask (rSel (aggArr x8) 3 1 false) fun x183 =>
 AskF X 128 [x168, x183, x163, x181] fun x184 =>
 Ask (rExt X.P x184 0) fun x185 =>
 Ask (rExt X.P x184 1) fun x186 =>
 Ask (rPlain x185) fun x187 =>
 Ask (rGen X.P (Op.call { callee := Callee.value (Operand.func 124), args := #[Operand.tmp 80, Operand.tmp 81, Operand.const (Value.int IntKind.u64 0)], argTypes := #[22, 22, 22] }) 199 [(80, x167), (81, x186)]) fun x188 =>
 Ask (rExt X.P x188 0) fun x189 =>
 Ask (rExt X.P x188 1) fun x190 =>
 Ask (rPlain x189) fun x191 =>
 Ask (rBin X.P .add 22 false false x166 x190) fun x192 =>
 Ask (rPlain x192) fun _ =>
 Ask (rPlain x177) fun x194 =>
 Ask (rPlain x182) fun x195 =>
 Ask (rPlain x187) fun x196 =>
 Ask (rPlain x191) fun x197 =>
 AskF X 85 [(.agg #[x194, x195, x196, x197])] fun x198 =>
 Ask (rAgg 4 x198) fun x199 =>
 Ask (rSel (aggArr x199) 0 1 false) fun x200 =>
 Ask (rSel (aggArr x199) 1 1 false) fun x201 =>
 Ask (rSel (aggArr x199) 2 1 false) fun x202 =>
 Ask (rSel (aggArr x199) 3 1 false) fun x203 =>
 Ret X X.w0 [b3, b4, b4, b4, b4, b4, b4, b4, b4, b4, b4, b4, b4, b4, b4, b4, b4, b4, b4, b4, b4, b4, b4, b4, b4, b4, b4, b4, b4, b4, b4, b4, b4, b4, b4, b4, b4, b4, b4, b4, b4] [] (.agg #[x200, x201, x202, x203])) := by kernel_rfl
def cProdS : Contract := fnP enc2 (fun p => p.1 < lN ∧ p.2 < W256) (fun p v => v = S (p.1 * p.2 * Ri % lN))
theorem keepsProd : Keeps1 Tryz.prog GT 102 cProdS := by
  refine keepsP (T := Tpr) (A := ann102) (fun a b ha hb => inj2 a b ⟨l_W ha.1, ha.2⟩ ⟨l_W hb.1, hb.2⟩) hMix keepTpr hGT (fun f hf => by
      simp only [ann102, List.mem_cons, List.not_mem_nil, or_false] at hf
      rcases hf with rfl | rfl <;> intros <;> kernel_rfl) (fun f hf => by cases hf) fun ⟨A, n⟩ w0 ⟨hA, hn⟩ hG => ⟨[.l [.v 0, .v 1, .v 2, .v 3], .l [.v 4, .v 5, .v 6, .v 7]], [some ⟨.wh 8, 16, 175, false⟩], [(0, 0)], 10, env0 ([U (lb A 0), U (lb A 1), U (lb A 2), U (lb A 3), U (lb n 0), U (lb n 1), U (lb n 2), U (lb n 3)] ++ [.agg tabArr]) w0, fun b => b, 1, rfl, rfl,
        fun X hX => memT (k := 8) (xs := [U (lb A 0), U (lb A 1), U (lb A 2), U (lb A 3), U (lb n 0), U (lb n 1), U (lb n 2), U (lb n 3)]) hX hG rfl, fun X hP hS hw hX hR => ?_⟩
  subst hw; dsimp only at hA hn hR
  simp only [List.cons_append, List.nil_append]
  rw [vc102 X, hP]
  have sA := limbs_sum A (l_W hA)
  have sn := limbs_sum n hn
  have a0 := lb_lt A 0; have a1 := lb_lt A 1; have a2 := lb_lt A 2; have a3 := lb_lt A 3
  have n0 := lb_lt n 0; have n1 := lb_lt n 1; have n2 := lb_lt n 2; have n3 := lb_lt n 3
  generalize lb A 0 = x0 at *; generalize lb A 1 = x1 at *; generalize lb A 2 = x2 at *; generalize lb A 3 = x3 at *
  generalize lb n 0 = y0 at *; generalize lb n 1 = y1 at *; generalize lb n 2 = y2 at *; generalize lb n 3 = y3 at *
  have tb0 : ∀ {K : Value → Prop}, Ask (rSel (aggArr (.agg tabArr)) 0 1 false) K = K (U l0) := ask_sel1 rfl
  have tb1 : ∀ {K : Value → Prop}, Ask (rSel (aggArr (.agg tabArr)) 1 1 false) K = K (U l1) := ask_sel1 rfl
  have tb2 : ∀ {K : Value → Prop}, Ask (rSel (aggArr (.agg tabArr)) 2 1 false) K = K (U 0) := ask_sel1 rfl
  have tb3 : ∀ {K : Value → Prop}, Ask (rSel (aggArr (.agg tabArr)) 3 1 false) K = K (U l3) := ask_sel1 rfl
  have z64 : 0 < B64 := by decide
  have m64 : ∀ x, x % B64 < B64 := fun _ => Nat.mod_lt _ (by decide)
  have l0l : l0 < B64 := by decide
  have l1l : l1 < B64 := by decide
  have l3l : l3 < B64 := by decide
  intro _ _ _ _ _ _ _ _
  refine a_into hS a0 n0 z64 z64 fun u00 c00 eu00 lu00 lc00 su00 => ?_
  rw [ask_ext0, ask_ext1, ask_uplain]
  refine a_into hS a1 n0 z64 lc00 fun u01 c01 eu01 lu01 lc01 su01 => ?_
  rw [ask_ext0, ask_ext1, ask_uplain]
  refine a_into hS a2 n0 z64 lc01 fun u02 c02 eu02 lu02 lc02 su02 => ?_
  rw [ask_ext0, ask_ext1, ask_uplain]
  refine a_into hS a3 n0 z64 lc02 fun u03 c03 eu03 lu03 lc03 su03 => ?_
  rw [ask_ext0, ask_ext1, ask_uplain]
  obtain ⟨v0, k0, ev0, ek0, lv0, lk0, sv0⟩ := add_names 0 c03 z64 lc03
  rw [ask_add64 (x := 0) (y := c03) (c := 0) add64 (by simp [argsFn]; try rfl) (Nat.zero_le _), ev0, ek0, ask_ext0, ask_ext1, ask_uplain, ask_umul, tb0]
  obtain ⟨m0, em0⟩ : ∃ m, u00 * 15183074304973897243 % B64 = m := ⟨_, rfl⟩
  have lm0 : m0 < B64 := em0 ▸ m64 _
  rw [em0]
  refine a_into hS lm0 l0l lu00 z64 fun z0 d00 ez0 lz0 ld00 sz0 => ?_
  rw [ask_ext0, ask_ext1, tb1]
  refine a_into hS lm0 l1l lu01 ld00 fun r00 d01 er00 lr00 ld01 sr00 => ?_
  rw [ask_ext0, ask_ext1, ask_uplain, tb2]
  refine a_into hS lm0 z64 lu02 ld01 fun r01 d02 er01 lr01 ld02 sr01 => ?_
  rw [ask_ext0, ask_ext1, ask_uplain, tb3]
  refine a_into hS lm0 l3l lu03 ld02 fun r02 d03 er02 lr02 ld03 sr02 => ?_
  rw [ask_ext0, ask_ext1, ask_uplain]
  obtain ⟨r03, q0, er0, eq0, lr03, lq0, sr0⟩ := add_names v0 d03 lv0 ld03
  rw [ask_add64 (x := v0) (y := d03) (c := 0) add64 (by simp [argsFn]; try rfl) (Nat.zero_le _), er0, eq0, ask_ext0, ask_ext1, ask_uplain, ask_uadd]
  have R0 := round_fin sA hA n0 lm0 (show 0 + B64 * 0 + B64 ^ 2 * 0 + B64 ^ 3 * 0 = 0 from rfl) (show 0 < 2 * lN by decide) (ng_law2 em0 ez0) su00 su01 su02 su03 sv0 sz0 sr00 sr01 sr02 sr0
  rw [R0.1, ask_uplain]
  refine a_into hS a0 n1 lr00 z64 fun u10 c10 eu10 lu10 lc10 su10 => ?_
  rw [ask_ext0, ask_ext1, ask_uplain]
  refine a_into hS a1 n1 lr01 lc10 fun u11 c11 eu11 lu11 lc11 su11 => ?_
  rw [ask_ext0, ask_ext1, ask_uplain]
  refine a_into hS a2 n1 lr02 lc11 fun u12 c12 eu12 lu12 lc12 su12 => ?_
  rw [ask_ext0, ask_ext1, ask_uplain]
  refine a_into hS a3 n1 lr03 lc12 fun u13 c13 eu13 lu13 lc13 su13 => ?_
  rw [ask_ext0, ask_ext1, ask_uplain]
  obtain ⟨v1, k1, ev1, ek1, lv1, lk1, sv1⟩ := add_names 0 c13 z64 lc13
  rw [ask_add64 (x := 0) (y := c13) (c := 0) add64 (by simp [argsFn]; try rfl) (Nat.zero_le _), ev1, ek1, ask_ext0, ask_ext1, ask_uplain, ask_umul, tb0]
  obtain ⟨m1, em1⟩ : ∃ m, u10 * 15183074304973897243 % B64 = m := ⟨_, rfl⟩
  have lm1 : m1 < B64 := em1 ▸ m64 _
  rw [em1]
  refine a_into hS lm1 l0l lu10 z64 fun z1 d10 ez1 lz1 ld10 sz1 => ?_
  rw [ask_ext0, ask_ext1, tb1]
  refine a_into hS lm1 l1l lu11 ld10 fun r10 d11 er10 lr10 ld11 sr10 => ?_
  rw [ask_ext0, ask_ext1, ask_uplain, tb2]
  refine a_into hS lm1 z64 lu12 ld11 fun r11 d12 er11 lr11 ld12 sr11 => ?_
  rw [ask_ext0, ask_ext1, ask_uplain, tb3]
  refine a_into hS lm1 l3l lu13 ld12 fun r12 d13 er12 lr12 ld13 sr12 => ?_
  rw [ask_ext0, ask_ext1, ask_uplain]
  obtain ⟨r13, q1, er1, eq1, lr13, lq1, sr1⟩ := add_names v1 d13 lv1 ld13
  rw [ask_add64 (x := v1) (y := d13) (c := 0) add64 (by simp [argsFn]; try rfl) (Nat.zero_le _), er1, eq1, ask_ext0, ask_ext1, ask_uplain, ask_uadd]
  have R1 := round_fin sA hA n1 lm1 rfl R0.2.1 (ng_law2 em1 ez1) su10 su11 su12 su13 sv1 sz1 sr10 sr11 sr12 sr1
  rw [R1.1, ask_uplain]
  refine a_into hS a0 n2 lr10 z64 fun u20 c20 eu20 lu20 lc20 su20 => ?_
  rw [ask_ext0, ask_ext1, ask_uplain]
  refine a_into hS a1 n2 lr11 lc20 fun u21 c21 eu21 lu21 lc21 su21 => ?_
  rw [ask_ext0, ask_ext1, ask_uplain]
  refine a_into hS a2 n2 lr12 lc21 fun u22 c22 eu22 lu22 lc22 su22 => ?_
  rw [ask_ext0, ask_ext1, ask_uplain]
  refine a_into hS a3 n2 lr13 lc22 fun u23 c23 eu23 lu23 lc23 su23 => ?_
  rw [ask_ext0, ask_ext1, ask_uplain]
  obtain ⟨v2, k2, ev2, ek2, lv2, lk2, sv2⟩ := add_names 0 c23 z64 lc23
  rw [ask_add64 (x := 0) (y := c23) (c := 0) add64 (by simp [argsFn]; try rfl) (Nat.zero_le _), ev2, ek2, ask_ext0, ask_ext1, ask_uplain, ask_umul, tb0]
  obtain ⟨m2, em2⟩ : ∃ m, u20 * 15183074304973897243 % B64 = m := ⟨_, rfl⟩
  have lm2 : m2 < B64 := em2 ▸ m64 _
  rw [em2]
  refine a_into hS lm2 l0l lu20 z64 fun z2 d20 ez2 lz2 ld20 sz2 => ?_
  rw [ask_ext0, ask_ext1, tb1]
  refine a_into hS lm2 l1l lu21 ld20 fun r20 d21 er20 lr20 ld21 sr20 => ?_
  rw [ask_ext0, ask_ext1, ask_uplain, tb2]
  refine a_into hS lm2 z64 lu22 ld21 fun r21 d22 er21 lr21 ld22 sr21 => ?_
  rw [ask_ext0, ask_ext1, ask_uplain, tb3]
  refine a_into hS lm2 l3l lu23 ld22 fun r22 d23 er22 lr22 ld23 sr22 => ?_
  rw [ask_ext0, ask_ext1, ask_uplain]
  obtain ⟨r23, q2, er2, eq2, lr23, lq2, sr2⟩ := add_names v2 d23 lv2 ld23
  rw [ask_add64 (x := v2) (y := d23) (c := 0) add64 (by simp [argsFn]; try rfl) (Nat.zero_le _), er2, eq2, ask_ext0, ask_ext1, ask_uplain, ask_uadd]
  have R2 := round_fin sA hA n2 lm2 rfl R1.2.1 (ng_law2 em2 ez2) su20 su21 su22 su23 sv2 sz2 sr20 sr21 sr22 sr2
  rw [R2.1, ask_uplain]
  refine a_into hS a0 n3 lr20 z64 fun u30 c30 eu30 lu30 lc30 su30 => ?_
  rw [ask_ext0, ask_ext1, ask_uplain]
  refine a_into hS a1 n3 lr21 lc30 fun u31 c31 eu31 lu31 lc31 su31 => ?_
  rw [ask_ext0, ask_ext1, ask_uplain]
  refine a_into hS a2 n3 lr22 lc31 fun u32 c32 eu32 lu32 lc32 su32 => ?_
  rw [ask_ext0, ask_ext1, ask_uplain]
  refine a_into hS a3 n3 lr23 lc32 fun u33 c33 eu33 lu33 lc33 su33 => ?_
  rw [ask_ext0, ask_ext1, ask_uplain]
  obtain ⟨v3, k3, ev3, ek3, lv3, lk3, sv3⟩ := add_names 0 c33 z64 lc33
  rw [ask_add64 (x := 0) (y := c33) (c := 0) add64 (by simp [argsFn]; try rfl) (Nat.zero_le _), ev3, ek3, ask_ext0, ask_ext1, ask_uplain, ask_umul, tb0]
  obtain ⟨m3, em3⟩ : ∃ m, u30 * 15183074304973897243 % B64 = m := ⟨_, rfl⟩
  have lm3 : m3 < B64 := em3 ▸ m64 _
  rw [em3]
  refine a_into hS lm3 l0l lu30 z64 fun z3 d30 ez3 lz3 ld30 sz3 => ?_
  rw [ask_ext0, ask_ext1, tb1]
  refine a_into hS lm3 l1l lu31 ld30 fun r30 d31 er30 lr30 ld31 sr30 => ?_
  rw [ask_ext0, ask_ext1, ask_uplain, tb2]
  refine a_into hS lm3 z64 lu32 ld31 fun r31 d32 er31 lr31 ld32 sr31 => ?_
  rw [ask_ext0, ask_ext1, ask_uplain, tb3]
  refine a_into hS lm3 l3l lu33 ld32 fun r32 d33 er32 lr32 ld33 sr32 => ?_
  rw [ask_ext0, ask_ext1, ask_uplain]
  obtain ⟨r33, q3, er3, eq3, lr33, lq3, sr3⟩ := add_names v3 d33 lv3 ld33
  rw [ask_add64 (x := v3) (y := d33) (c := 0) add64 (by simp [argsFn]; try rfl) (Nat.zero_le _), er3, eq3, ask_ext0, ask_ext1, ask_uplain, ask_uadd]
  have R3 := round_fin sA hA n3 lm3 rfl R2.2.1 (ng_law2 em3 ez3) su30 su31 su32 su33 sv3 sz3 sr30 sr31 sr32 sr3
  rw [R3.1, ask_uplain]
  rw [ask_uplain, ask_uplain, ask_uplain, ask_uplain, S_of lr30 lr31 lr32 lr33]
  refine call_PE hS (T := Tpr) (f := 85) rfl (r30 + B64 * r31 + B64 ^ 2 * r32 + B64 ^ 3 * r33) (num_lt lr30 lr31 lr32 lr33) ?_
  rw [ask_aggS, ask_selS0, ask_selS1, ask_selS2, ask_selS3]
  exact hR _ _ _ _ (by rw [← prod_lin sn R0.2.2 R1.2.2 R2.2.2 R3.2.2 R3.2.1]; rfl)
def ann49 : Ann := ⟨[], [71, 102], 70, [], [2, 3, 4], none, [], []⟩
theorem vc49 (X : Ctx) (β : Nat → Nat) (x0 x1 x2 : Value) : (run Tryz.prog ann49 49 [.x (.v 0), .x (.v 1)] [some ⟨.wh 2, 16, 175, false⟩] [(0, 0)] 4).den X (env0 [x0, x1, x2] X.w0) 4 β 1 (fun _ _ _ => False) = (
 Ask (rAgg 4 x0) fun x4 =>
 AskNew X.w0 fun _ =>
 Ask (rAgg 4 x1) fun x5 =>
 AskNew X.w0 fun _ =>
 Ask (rAgg 4 (.agg #[(U 0), (U 0), (U 0), (U 0)])) fun _ =>
 AskNew X.w0 fun b3 =>
 AskF X 71 [x4] fun x7 =>
 AskF X 71 [x5] fun x8 =>
 AskF X 102 [x7, x8] fun x9 =>
 Ask (rSel (aggArr x2) 8 4 true) fun x10 =>
 AskF X 102 [x9, x10] fun x11 =>
 Ask (rAgg 4 x11) fun x12 =>
 Ret X X.w0 [b3] [] x12) := by kernel_rfl
def cMulS : Contract := fnP enc2 dom2 (fun p v => v = S (p.1 * p.2 % lN))
def Tml : Table := (T0.add 71 cLeastS).add 102 cProdS
theorem keepTml : AllKeep Tryz.prog GT Tml := (keepT0.add keepsLeast).add keepsProd
/-- 2^512 modulo l. -/
def RR : Nat := 1627715501170711445284395025044413883736156588369414752970002579683115011841
theorem ask_tabR {K : Value → Prop} : Ask (rSel (aggArr (.agg tabArr)) 8 4 true) K = K (S RR) :=
  (ask_eq fun v => ⟨fun h => h.2, fun h => ⟨by decide, h⟩⟩ : Ask (rSel (aggArr (.agg tabArr)) 8 4 true) K = K (L4 11819153939886771969 14991950615390032711 14910419812499177061 259310039853996605)).trans (by rw [L4_S ⟨by decide, by decide, by decide, by decide⟩]; rfl)
theorem mul_law (a b : Nat) : (a % lN) * (b % lN) * Ri % lN * RR * Ri % lN = a * b % lN := by
  have e : RR * Ri % lN * Ri % lN = 1 := by decide
  rw [Nat.mul_assoc, Nat.mul_mod, Nat.mod_mod, ← Nat.mul_mod, Nat.mul_assoc _ Ri, Nat.mul_mod, show Ri * (RR * Ri) % lN = 1 by decide, Nat.mul_one, Nat.mod_mod, ← Nat.mul_mod]
theorem keepsMul : Keeps1 Tryz.prog GT 49 cMulS := by
  refine keepsP (T := Tml) (A := ann49) inj2 hMix keepTml hGT (fun f hf => by
      simp only [ann49, List.mem_cons, List.not_mem_nil, or_false] at hf
      rcases hf with rfl | rfl <;> intros <;> kernel_rfl) (fun f hf => by cases hf) fun ⟨a, b⟩ w0 ⟨ha, hb⟩ hG => ⟨[.x (.v 0), .x (.v 1)], [some ⟨.wh 2, 16, 175, false⟩], [(0, 0)], 4, env0 ([S a, S b] ++ [.agg tabArr]) w0, fun b => b, 1, rfl, rfl, fun X hX => memT (k := 2) (xs := [S a, S b]) hX hG rfl, fun X hP hS hw hX hR => ?_⟩
  subst hw; dsimp only at ha hb hR
  simp only [List.cons_append, List.nil_append]
  rw [vc49 X]
  rw [ask_aggS]; intro _ _; rw [ask_aggS]; intro _ _; rw [ask_zero4]; intro _ _
  refine call_PE hS (T := Tml) (f := 71) rfl a ha ?_
  refine call_PE hS (T := Tml) (f := 71) rfl b hb ?_
  refine call_PE hS (T := Tml) (f := 102) rfl (a % lN, b % lN) ⟨mod_l a, l_W (mod_l b)⟩ ?_
  dsimp only
  rw [ask_tabR]
  refine call_PE hS (T := Tml) (f := 102) rfl (a % lN * (b % lN) * Ri % lN, RR) ⟨mod_l _, show RR < W256 by decide⟩ ?_
  dsimp only
  rw [ask_aggS]
  exact hR _ _ _ _ (by rw [mul_law])
end Go.Vc
