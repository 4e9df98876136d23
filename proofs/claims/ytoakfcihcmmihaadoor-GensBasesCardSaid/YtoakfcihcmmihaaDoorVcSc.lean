/-
  Scalars as numbers: S n is the array of n's four limbs.
-/
import Derived.Test.YtoakfcihcmmihaaDoorVcWalk
import Derived.DeepKeys
namespace Go.Vc
open Go Go.RowKit

/-- Limb i of n. -/
def lb (n i : Nat) : Nat := n / B64 ^ i % B64
def S (n : Nat) : Value := .agg #[U (lb n 0), U (lb n 1), U (lb n 2), U (lb n 3)]
abbrev W256 : Nat := 115792089237316195423570985008687907853269984665640564039457584007913129639936
theorem W256_eq : W256 = B64 ^ 4 := by decide
def encS (n : Nat) : List Value := [U (lb n 0), U (lb n 1), U (lb n 2), U (lb n 3)]
theorem encS_len (n : Nat) : (encS n).length = 4 := rfl
theorem S_enc (n : Nat) : S n = .agg (encS n).toArray := rfl

theorem lb_lt (n i : Nat) : lb n i < B64 := Nat.mod_lt _ (by decide)

theorem limbs_sum (n : Nat) (h : n < W256) : lb n 0 + B64 * lb n 1 + B64 ^ 2 * lb n 2 + B64 ^ 3 * lb n 3 = n := by
  unfold lb
  simp only [B64, W256] at *
  omega

theorem limbs_of {a b c d : Nat} (ha : a < B64) (hb : b < B64) (hc : c < B64) (hd : d < B64) :
    lb (a + B64 * b + B64 ^ 2 * c + B64 ^ 3 * d) 0 = a ∧ lb (a + B64 * b + B64 ^ 2 * c + B64 ^ 3 * d) 1 = b ∧ lb (a + B64 * b + B64 ^ 2 * c + B64 ^ 3 * d) 2 = c ∧ lb (a + B64 * b + B64 ^ 2 * c + B64 ^ 3 * d) 3 = d := by
  unfold lb
  simp only [B64] at *
  omega

/-- Any four limbs are a number's. -/
theorem S_of {a b c d : Nat} (ha : a < B64) (hb : b < B64) (hc : c < B64) (hd : d < B64) : Value.agg #[U a, U b, U c, U d] = S (a + B64 * b + B64 ^ 2 * c + B64 ^ 3 * d) := by
  obtain ⟨h0, h1, h2, h3⟩ := limbs_of ha hb hc hd
  unfold S
  rw [h0, h1, h2, h3]
theorem num_lt {a b c d : Nat} (ha : a < B64) (hb : b < B64) (hc : c < B64) (hd : d < B64) : a + B64 * b + B64 ^ 2 * c + B64 ^ 3 * d < W256 := by
  simp only [B64, W256] at *
  omega

theorem U_inj' {a b : Nat} (h : U a = U b) : a = b := by unfold U at h; simp at h; omega
theorem S_inj {a b : Nat} (ha : a < W256) (hb : b < W256) (h : S a = S b) : a = b := by
  unfold S at h
  simp only [Value.agg.injEq, Array.mk.injEq, List.cons.injEq, and_true] at h
  obtain ⟨h0, h1, h2, h3⟩ := h
  rw [← limbs_sum a ha, ← limbs_sum b hb, U_inj' h0, U_inj' h1, U_inj' h2, U_inj' h3]
theorem encS_inj {a b : Nat} (ha : a < W256) (hb : b < W256) (h : encS a = encS b) : a = b := S_inj ha hb (by rw [S_enc, S_enc, h])

/-- A scalar as an argument. -/
def cS : Cod Nat := ⟨fun _ v n => v = S n ∧ n < W256, fun _ _ _ _ h k => S_inj h.2 k.2 (h.1.symm.trans k.1)⟩
/-- A whole number as an argument. -/
def cI : Cod Int := ⟨fun _ v n => v = .int .i64 n, fun _ _ _ _ h k => by rw [h] at k; cases k; rfl⟩
def cU : Cod Nat := ⟨fun _ v n => v = U n, fun _ _ _ _ h k => U_inj' (h.symm.trans k)⟩
def cB : Cod Bool := ⟨fun _ v b => v = .bool b, fun _ _ _ _ h k => by rw [h] at k; cases k; rfl⟩

section
variable {P : Program} {K : Value → Prop} {n : Nat}
theorem ask_aggS : Ask (rAgg 4 (S n)) K = K (S n) := ask_agg rfl (by simp [U, Value.oneCell'])
theorem ask_selS0 : Ask (rSel (aggArr (S n)) 0 1 false) K = K (U (lb n 0)) := ask_sel1 rfl
theorem ask_selS1 : Ask (rSel (aggArr (S n)) 1 1 false) K = K (U (lb n 1)) := ask_sel1 rfl
theorem ask_selS2 : Ask (rSel (aggArr (S n)) 2 1 false) K = K (U (lb n 2)) := ask_sel1 rfl
theorem ask_selS3 : Ask (rSel (aggArr (S n)) 3 1 false) K = K (U (lb n 3)) := ask_sel1 rfl
theorem ask_selS : Ask (rSel (aggArr (S n)) 0 4 true) K = K (S n) := ask_eq fun v => by
  unfold rSel
  constructor
  · intro h; exact h.2
  · intro h; exact ⟨by simp [aggArr, S], h⟩

theorem run_part_u {w : World} {e : TypeId} {k' : IntKind} (hu : P.underlying e = some (.int k')) (cs : Array Value) (k : Nat) (v : Value) (h : cs[k]? = some v) : (part e cs k).run P w = .ok v w := by
  have ha : agg? P e = some false := by simp [agg?, hu]
  have hr : (isAgg e).run P w = .ok false w := run_agg (X := ⟨P, ⟨fun _ _ => False, fun _ _ _ => False, fun _ _ _ => False, fun _ _ _ _ _ => False, fun _ _ _ _ => False⟩, fun _ => True, w, fun _ => True, fun _ _ => True⟩) ha w
  simp [part, hr, h]

theorem run_items_u {e : TypeId} (hu : P.underlying e = some (.int .u64)) {xs ys : Array Value} {k : Nat} {x y : Nat} (hx : xs[k]? = some (U x)) (hy : ys[k]? = some (U y)) (ks : List Nat) (w : World) :
    (Op.eqItems 9999 e 1 xs ys (k :: ks)).run P w = if x = y then (Op.eqItems 9999 e 1 xs ys ks).run P w else .ok false w := by
  have he : (Op.equalIn 9999 e (U x) (U y)).run P w = .ok ((x : Int) == (y : Int)) w := run_equalIn_int w 9998 e .u64 .u64 x y hu
  simp only [Op.eqItems, Sem.run_bind, Nat.mul_one, run_part_u hu xs k _ hx, run_part_u hu ys k _ hy, Result.andThen_ok, he]
  by_cases h : x = y
  · subst h; simp
  · have : ((x : Int) == (y : Int)) = false := by simp; omega
    simp [this, h]

theorem run_equal_u4 {t e : TypeId} {i : TypeInfo} (ht : P.underlying t = some (.array 4 e)) (hi : P.info? e = some i) (hs : i.size = 1) (hu : P.underlying e = some (.int .u64)) (a b c d a' b' c' d' : Nat) (w : World) :
    (Op.equal t (.agg #[U a, U b, U c, U d]) (.agg #[U a', U b', U c', U d'])).run P w = .ok (decide (a = a' ∧ b = b' ∧ c = c' ∧ d = d')) w := by
  have hc : P.cellsOf e = 1 := by simp [Program.cellsOf, hi, hs]
  show (Op.equalIn (9999 + 1) t _ _).run P w = _
  rw [run_equalIn_array w 9999 _ _ ht hi, hc]
  show (Op.eqItems 9999 e 1 _ _ [0, 1, 2, 3]).run P w = _
  rw [run_items_u hu (x := a) (y := a') rfl rfl, run_items_u hu (x := b) (y := b') rfl rfl, run_items_u hu (x := c) (y := c') rfl rfl, run_items_u hu (x := d) (y := d') rfl rfl]
  simp only [Op.eqItems, Sem.run_pure]
  by_cases h0 : a = a' <;> by_cases h1 : b = b' <;> by_cases h2 : c = c' <;> by_cases h3 : d = d' <;> simp [h0, h1, h2, h3]

theorem S_eq_iff {a b : Nat} (ha : a < W256) (hb : b < W256) : (lb a 0 = lb b 0 ∧ lb a 1 = lb b 1 ∧ lb a 2 = lb b 2 ∧ lb a 3 = lb b 3) ↔ a = b := by
  constructor
  · rintro ⟨h0, h1, h2, h3⟩
    exact S_inj ha hb (by unfold S; rw [h0, h1, h2, h3])
  · rintro rfl; exact ⟨rfl, rfl, rfl, rfl⟩

theorem run_equalS {t e : TypeId} {i : TypeInfo} (ht : P.underlying t = some (.array 4 e)) (hi : P.info? e = some i) (hs : i.size = 1) (hu : P.underlying e = some (.int .u64)) {a b : Nat} (ha : a < W256) (hb : b < W256) (w : World) :
    (Op.equal t (S a) (S b)).run P w = .ok (decide (a = b)) w := by
  have h := run_equal_u4 ht hi hs hu (lb a 0) (lb a 1) (lb a 2) (lb a 3) (lb b 0) (lb b 1) (lb b 2) (lb b 3) w
  rw [show decide (a = b) = decide (lb a 0 = lb b 0 ∧ lb a 1 = lb b 1 ∧ lb a 2 = lb b 2 ∧ lb a 3 = lb b 3) from by simp only [S_eq_iff ha hb]]
  exact h

/-- The type of four limbs. -/
structure A4 (P : Program) (t e : Nat) : Prop where
  ar : P.underlying t = some (.array 4 e)
  el : P.underlying e = some (.int .u64)
  sz : (P.info? e).map (·.size) = some 1
  gd : P.eqGuardType P.depth t = false
theorem A4.info {t e : Nat} (h : A4 P t e) : ∃ i, P.info? e = some i ∧ i.size = 1 := by
  have := h.sz
  cases hi : P.info? e with
  | none => rw [hi] at this; cases this
  | some i => rw [hi] at this; exact ⟨i, rfl, by simpa using this⟩
theorem ask_eqlS {t e : TypeId} {cx cy : Bool} (h4 : A4 P t e) {a b : Nat} (ha : a < W256) (hb : b < W256) :
    Ask (rBin P .eql t cx cy (S a) (S b)) K = K (.bool (decide (a = b))) :=
  ask_eq (runs_iff fun w => by
    obtain ⟨i, hi, hs⟩ := h4.info
    have h := run_equalS h4.ar hi hs h4.el ha hb w
    have hg := h4.gd
    unfold S at *
    simp [binSem, eqGuard, binOp, hg, h])
theorem ask_neqS {t e : TypeId} {cx cy : Bool} (h4 : A4 P t e) {a b : Nat} (ha : a < W256) (hb : b < W256) :
    Ask (rBin P .neq t cx cy (S a) (S b)) K = K (.bool (!decide (a = b))) :=
  ask_eq (runs_iff fun w => by
    obtain ⟨i, hi, hs⟩ := h4.info
    have h := run_equalS h4.ar hi hs h4.el ha hb w
    have hg := h4.gd
    unfold S at *
    simp [binSem, eqGuard, binOp, hg, h])
end
end Go.Vc
