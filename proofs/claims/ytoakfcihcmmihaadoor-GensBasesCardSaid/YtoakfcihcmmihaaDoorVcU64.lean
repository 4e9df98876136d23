/-
  Rules for uint64, by natural numbers.
-/
import Derived.Test.YtoakfcihcmmihaaDoorVcSpec
import Derived.Laws.Externs
import Derived.Shelf.Spec.BitsCarry
namespace Go.Vc
open Go Go.RowKit Go.Proofs

/-- A uint64. -/
def U (n : Nat) : Value := .int .u64 n
/-- A natural number as an int. -/
abbrev J (n : Nat) : Value := .int .i64 (n : Int)
abbrev B64 : Nat := 18446744073709551616

theorem execOp_call {P : Program} {f : FuncId} {args : Array Operand} {at_ : Array TypeId} {ty : TypeId} {l : List (Nat × Value)} (w : World) :
    (execOp (argsFn l) ⟨none, .call { callee := .value (.func f), args := args, argTypes := at_ }, ty, "", #[], none⟩).run P w = (callFunc f (args.map (argsFn l))).run P w := by
  simp only [execOp, resolve, Deferred.ofValue, invoke, argsFn, Sem.run_bind, Sem.run_pure, Result.andThen_ok, Array.empty_append, Array.append_empty]

section
variable {P : Program} {K : Value → Prop}

theorem ask_sub64 {f ty : Nat} {xs : Array Operand} {at_ : Array TypeId} {l : List (Nat × Value)} {x y b : Nat} (hf : ∀ x y b : Nat, b ≤ 1 → ∀ w, (callFunc f #[U x, U y, U b]).run P w = .ok (.value (.tuple #[U ((x + B64 - y - b) % B64), U (if x < y + b then 1 else 0)])) w)
    (ha : xs.map (argsFn l) = #[U x, U y, U b]) (hb : b ≤ 1) :
    Ask (rGen P (.call { callee := .value (.func f), args := xs, argTypes := at_ }) ty l) K = K (.tuple #[U ((x + B64 - y - b) % B64), U (if x < y + b then 1 else 0)]) :=
  ask_eq (runsN_iff fun w => by rw [execOp_call, ha, hf x y b hb w])

theorem ask_add64 {f ty : Nat} {xs : Array Operand} {at_ : Array TypeId} {l : List (Nat × Value)} {x y c : Nat} (hf : ∀ x y c : Nat, c ≤ 1 → ∀ w, (callFunc f #[U x, U y, U c]).run P w = .ok (.value (.tuple #[U ((x + y + c) % B64), U ((x + y + c) / B64)])) w)
    (ha : xs.map (argsFn l) = #[U x, U y, U c]) (hc : c ≤ 1) :
    Ask (rGen P (.call { callee := .value (.func f), args := xs, argTypes := at_ }) ty l) K = K (.tuple #[U ((x + y + c) % B64), U ((x + y + c) / B64)]) :=
  ask_eq (runsN_iff fun w => by rw [execOp_call, ha, hf x y c hc w])

variable {t : TypeId} {cx cy : Bool} {a b : Nat}

theorem wrap_u64 (n : Nat) : IntKind.u64.wrap (n : Int) = ((n % B64 : Nat) : Int) := by
  simp [IntKind.wrap, IntKind.bits, IntKind.signed, B64]

theorem ask_uadd : Ask (rBin P .add t cx cy (U a) (U b)) K = K (U ((a + b) % B64)) := by
  unfold U; rw [ask_add, ← Int.natCast_add, wrap_u64]
theorem ask_umul : Ask (rBin P .mul t cx cy (U a) (U b)) K = K (U ((a * b) % B64)) := by
  unfold U; rw [ask_mul, ← Int.natCast_mul, wrap_u64]
theorem ask_usub (hb : b < B64) : Ask (rBin P .sub t cx cy (U a) (U b)) K = K (U ((a + B64 - b) % B64)) := by
  unfold U
  rw [ask_sub]
  have : IntKind.u64.wrap ((a : Int) - (b : Int)) = IntKind.u64.wrap (((a + B64 - b : Nat)) : Int) := by
    simp only [IntKind.wrap, IntKind.bits, IntKind.signed, B64] at *
    simp
    omega
  rw [this, wrap_u64]
theorem ask_ulss : Ask (rBin P .lss t cx cy (U a) (U b)) K = K (.bool (decide (a < b))) := by
  unfold U; rw [ask_lss]; simp
theorem ask_ueql : Ask (rBin P .eql t cx cy (U a) (U b)) K = K (.bool (decide (a = b))) := by
  unfold U; rw [ask_eql]; congr 2; rw [Bool.eq_iff_iff]; simp; omega
theorem ask_uneq : Ask (rBin P .neq t cx cy (U a) (U b)) K = K (.bool (decide (a ≠ b))) := by
  unfold U; rw [ask_neq]; congr 2; rw [Bool.eq_iff_iff]; simp; omega
theorem ask_uand (ha : a < B64) (hb : b < B64) : Ask (rBin P .and t cx cy (U a) (U b)) K = K (U (a &&& b)) := by
  unfold U; rw [ask_and]
  congr 2
  have : (BitVec.ofInt IntKind.u64.bits (a : Int) &&& BitVec.ofInt IntKind.u64.bits (b : Int)).toNat = a &&& b := by
    rw [BitVec.toNat_and]
    simp only [BitVec.ofInt_natCast, BitVec.toNat_ofNat, IntKind.bits]
    rw [Nat.mod_eq_of_lt ha, Nat.mod_eq_of_lt hb]
  rw [this, wrap_u64, Nat.mod_eq_of_lt (Nat.lt_of_le_of_lt Nat.and_le_left ha)]
theorem ask_uor (ha : a < B64) (hb : b < B64) : Ask (rBin P .or t cx cy (U a) (U b)) K = K (U (a ||| b)) := by
  unfold U; rw [ask_or]
  congr 2
  have : (BitVec.ofInt IntKind.u64.bits (a : Int) ||| BitVec.ofInt IntKind.u64.bits (b : Int)).toNat = a ||| b := by
    rw [BitVec.toNat_or]
    simp only [BitVec.ofInt_natCast, BitVec.toNat_ofNat, IntKind.bits]
    rw [Nat.mod_eq_of_lt ha, Nat.mod_eq_of_lt hb]
  rw [this, wrap_u64, Nat.mod_eq_of_lt (Nat.or_lt_two_pow (n := 64) ha hb)]
theorem ask_uneg (ha : a < B64) : Ask (rUn P .neg (U a)) K = K (U ((B64 - a) % B64)) := by
  unfold U
  rw [ask_neg]
  have : IntKind.u64.wrap (0 - (a : Int)) = IntKind.u64.wrap (((B64 - a : Nat)) : Int) := by
    simp only [IntKind.wrap, IntKind.bits, IntKind.signed, B64] at *
    simp
    omega
  rw [this, wrap_u64]

theorem ask_ushl {kd : IntKind} (hb : b < 64) : Ask (rBin P .shl t cx cy (U a) (.int kd (b : Int))) K = K (U ((a * 2 ^ b) % B64)) := by
  refine ask_eq (runs_iff fun w => ?_)
  have hm : min b IntKind.u64.bits = b := by simp only [IntKind.bits]; omega
  have hw : IntKind.u64.wrap ((a : Int) * 2 ^ b) = ((a * 2 ^ b % B64 : Nat) : Int) := by
    rw [← wrap_u64]; congr 1
  simp [binSem, eqGuard, binOp, U, hw]
theorem ask_ushr {kd : IntKind} (hb : b < 64) : Ask (rBin P .shr t cx cy (U a) (.int kd (b : Int))) K = K (U (a / 2 ^ b)) := by
  refine ask_eq (runs_iff fun w => ?_)
  have hm : min b IntKind.u64.bits = b := by simp only [IntKind.bits]; omega
  have hw : ((a : Int).fdiv (2 ^ b)) = ((a / 2 ^ b : Nat) : Int) := by
    rw [Int.fdiv_eq_ediv_of_nonneg _ (by exact Int.le_of_lt (Int.pow_pos (by omega)))]
    simp
  simp [binSem, eqGuard, binOp, U]
theorem ask_uandNot (ha : a < B64) (hb : b < B64) : Ask (rBin P .andNot t cx cy (U a) (U b)) K = K (U (a &&& (B64 - 1 - b))) := by
  unfold U; rw [ask_andNot]
  congr 2
  have : (BitVec.ofInt IntKind.u64.bits (a : Int) &&& ~~~ BitVec.ofInt IntKind.u64.bits (b : Int)).toNat = a &&& (B64 - 1 - b) := by
    rw [BitVec.toNat_and, BitVec.toNat_not]
    simp only [BitVec.ofInt_natCast, BitVec.toNat_ofNat, IntKind.bits]
    rw [Nat.mod_eq_of_lt ha, Nat.mod_eq_of_lt hb]
  rw [this, wrap_u64, Nat.mod_eq_of_lt (Nat.lt_of_le_of_lt Nat.and_le_left ha)]
theorem ask_ext0 {x y : Value} : Ask (rExt P (.tuple #[x, y]) 0) K = K x := ask_ext rfl
theorem ask_ext1 {x y : Value} : Ask (rExt P (.tuple #[x, y]) 1) K = K y := ask_ext rfl
theorem ask_uplain : Ask (rPlain (U a)) K = K (U a) := ask_plain rfl
end
end Go.Vc
