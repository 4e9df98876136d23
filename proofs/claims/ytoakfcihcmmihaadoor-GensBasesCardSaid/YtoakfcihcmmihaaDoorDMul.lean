/-
  Seat D: bits.Mul64 keeps its contract.
-/
import Derived.Test.YtoakfcihcmmihaaDoorDSmall
import Derived.Lib.Mul64
namespace Go.Vc
open Go Go.Proofs Go.RowKit

def ann68 : Ann := ⟨[], [], 70, [], [], none, []⟩
theorem vc68 (X : Ctx) (β : Nat → Nat) (x0 x1 : Value) : (run Tryd.prog ann68 68 [.x (.v 0), .x (.v 1)] [] [] 3).den X (env0 [x0, x1] X.w0) 3 β 0 (fun _ _ _ => False) = (
  Ask (rBin X.P .and 22 false true x0 (U 4294967295)) fun x3 =>
  Ask (rBin X.P .shr 22 false true x0 (U 32)) fun x4 =>
  Ask (rBin X.P .and 22 false true x1 (U 4294967295)) fun x5 =>
  Ask (rBin X.P .shr 22 false true x1 (U 32)) fun x6 =>
  Ask (rBin X.P .mul 22 false false x3 x5) fun x7 =>
  Ask (rBin X.P .mul 22 false false x4 x5) fun x8 =>
  Ask (rBin X.P .shr 22 false true x7 (U 32)) fun x9 =>
  Ask (rBin X.P .add 22 false false x8 x9) fun x10 =>
  Ask (rBin X.P .and 22 false true x10 (U 4294967295)) fun x11 =>
  Ask (rBin X.P .shr 22 false true x10 (U 32)) fun x12 =>
  Ask (rBin X.P .mul 22 false false x3 x6) fun x13 =>
  Ask (rBin X.P .add 22 false false x11 x13) fun x14 =>
  Ask (rBin X.P .mul 22 false false x4 x6) fun x15 =>
  Ask (rBin X.P .add 22 false false x15 x12) fun x16 =>
  Ask (rBin X.P .shr 22 false true x14 (U 32)) fun x17 =>
  Ask (rBin X.P .add 22 false false x16 x17) fun x18 =>
  Ask (rBin X.P .mul 22 false false x0 x1) fun x19 =>
  Ret X X.w0 [] [] (.tuple #[x18, x19])) := by kernel_rfl

section
variable {P : Program} {K : Value → Prop} {t : TypeId} {cx cy : Bool} {a b : Nat}
theorem ask_umulS (h : a * b < B64) : Ask (rBin P .mul t cx cy (U a) (U b)) K = K (U (a * b)) := by rw [ask_umul, Nat.mod_eq_of_lt h]
theorem ask_uaddS (h : a + b < B64) : Ask (rBin P .add t cx cy (U a) (U b)) K = K (U (a + b)) := by rw [ask_uadd, Nat.mod_eq_of_lt h]
theorem ask_mask32 (ha : a < B64) : Ask (rBin P .and t cx cy (U a) (U 4294967295)) K = K (U (a % 4294967296)) := by
  have h := ask_uand (P := P) (K := K) (t := t) (cx := cx) (cy := cy) (a := a) (b := 4294967295) ha (by decide)
  have e : a &&& 4294967295 = a % 4294967296 := Nat.and_two_pow_sub_one_eq_mod a 32
  rw [e] at h
  exact h
theorem ask_shr32 : Ask (rBin P .shr t cx cy (U a) (U 32)) K = K (U (a / 4294967296)) :=
  ask_ushr (P := P) (K := K) (t := t) (cx := cx) (cy := cy) (a := a) (b := 32) (kd := .u64) (by decide)
end

def cMul64 : Contract where
  pre args := ∃ x y, args = [U x, U y] ∧ x < B64 ∧ y < B64
  post args v := ∀ x y, args = [U x, U y] → v = .tuple #[U (x * y / B64), U (x * y % B64)]

theorem keeps68 : Keeps1 Tryd.prog (fun _ => True) 68 cMul64 := by
  refine keeps_pure (fun _ _ h => h) fun args w0 ⟨x, y, ha, hx, hy⟩ _ => ?_
  subst ha
  refine calls_pure (nb := 0) (A := ann68) (args := [.x (.v 0), .x (.v 1)]) (blocks := []) (gl := []) (ne := 3) (env := env0 [U x, U y] w0) (β := fun b => b) _ rfl rfl (by kernel_rfl) (AllKeep.none _ _) (fun _ _ _ => trivial) (fun f hf => by cases hf) (fun f hf => by cases hf)
    (fun X hX => by subst hX; exact mem0 rfl (fun k b h => by simp at h) (fun g k h => by simp at h)) fun X hP hS hw hR => ?_
  subst hw
  rw [vc68 X, hP]
  obtain ⟨bd, bt, bw, hhi⟩ := Lib.mul64_hi x y hx hy
  have hB : B64 = 18446744073709551616 := rfl
  have ba := Lib.half_mul_le (a := x / 4294967296) (b := y / 4294967296) (by omega) (by omega)
  have bb := Lib.half_mul_le (a := x / 4294967296) (b := y % 4294967296) (by omega) (by omega)
  have bc := Lib.half_mul_le (a := x % 4294967296) (b := y / 4294967296) (by omega) (by omega)
  rw [ask_mask32 hx, ask_shr32, ask_mask32 hy, ask_shr32, ask_umulS bd, ask_umulS (by omega), ask_shr32, ask_uaddS bt, ask_mask32 bt, ask_shr32, ask_umulS (by omega), ask_uaddS bw, ask_umulS (by omega), ask_uaddS (by omega), ask_shr32, ask_uaddS (by omega), hhi, ask_umul]
  refine hR _ _ _ _ fun x' y' he => ?_
  simp only [List.cons.injEq, and_true] at he
  obtain rfl := U_inj he.1
  obtain rfl := U_inj he.2
  rfl
#print axioms keeps68
end Go.Vc
