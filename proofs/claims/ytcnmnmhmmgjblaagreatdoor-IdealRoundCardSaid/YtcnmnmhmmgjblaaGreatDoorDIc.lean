import Derived.Test.YtcnmnmhmmgjblaaGreatDoorDNt
import Derived.Test.YtcnmnmhmmgjblaaGreatDoorDRm
import Derived.Test.YtcnmnmhmmgjblaaGreatDoorVcMut
import Derived.Test.YtcnmnmhmmgjblaaGreatDoorDRm2
/-
  The scalars as a field: residues, powers, inverses.
-/
namespace Go.Vc
open Go Go.Proofs Go.RowKit
theorem lN_pos : 0 < lN := by decide
instance : NeZero lN := ⟨by decide⟩
abbrev F := _root_.Fin lN
def rF (n : Nat) : F := ⟨n % lN, Nat.mod_lt _ lN_pos⟩
theorem rF_val (e : F) : rF e.val = e := _root_.Fin.ext (Nat.mod_eq_of_lt e.isLt)
theorem val_rF (n : Nat) : (rF n).val = n % lN := rfl
theorem rF_mod (n : Nat) : rF (n % lN) = rF n := _root_.Fin.ext (Nat.mod_mod _ _)
theorem rF_add (a b : Nat) : rF (a + b) = rF a + rF b := _root_.Fin.ext (by rw [_root_.Fin.val_add, val_rF, val_rF, val_rF, Nat.mod_add_mod, Nat.add_mod_mod])
theorem rF_mul (a b : Nat) : rF (a * b) = rF a * rF b := _root_.Fin.ext (by rw [_root_.Fin.val_mul, val_rF, val_rF, val_rF, ← Nat.mul_mod])
theorem rF_zero : rF 0 = 0 := rfl
theorem rF_one : rF 1 = 1 := rfl
theorem rF_eq {a b : Nat} : rF a = rF b ↔ a % lN = b % lN := ⟨fun h => congrArg _root_.Fin.val h, fun h => _root_.Fin.ext h⟩
theorem rF_eq0 {a : Nat} : rF a = 0 ↔ a % lN = 0 := ⟨fun h => congrArg _root_.Fin.val h, fun h => _root_.Fin.ext h⟩
theorem val_lt (e : F) : e.val < W256 := Nat.lt_trans e.isLt lN_lt
theorem val_of_lt {a : Nat} (h : a < lN) : (rF a).val = a := Nat.mod_eq_of_lt h
theorem rF_subL {a b : Nat} (hb : b < lN) : rF (subL a b) = rF a - rF b := by
  have e : rF (subL a b) + rF b = rF a := by
    rw [← rF_add]
    unfold subL
    split
    · rw [show a + lN - b + b = a + lN by omega, rF_eq, Nat.add_mod_right]
    · rw [show a - b + b = a by omega]
  rw [← e]; grind
theorem val_subL {a b : F} : subL a.val b.val = (a - b).val := by
  have h := rF_subL (a := a.val) b.isLt
  rw [rF_val, rF_val] at h
  rw [← h, val_rF, Nat.mod_eq_of_lt (subL_lt a.isLt)]
theorem val_addF {a b : Nat} : (a + b) % lN = (rF a + rF b).val := by rw [← rF_add, val_rF]
theorem val_mulF {a b : Nat} : a * b % lN = (rF a * rF b).val := by rw [← rF_mul, val_rF]
theorem val_subF {a b : Nat} : subL (a % lN) (b % lN) = (rF a - rF b).val := by rw [← val_rF, ← val_rF, val_subL]
/-! ### powers -/
def fp (e : F) : Nat → F
  | 0 => 1
  | n + 1 => fp e n * e
theorem fp_zero (e : F) : fp e 0 = 1 := rfl
theorem fp_succ (e : F) (n : Nat) : fp e (n + 1) = fp e n * e := rfl
theorem fp_add (e : F) (m : Nat) : ∀ n, fp e (m + n) = fp e m * fp e n
  | 0 => by rw [Nat.add_zero, fp_zero]; grind
  | n + 1 => by rw [← Nat.add_assoc, fp_succ, fp_succ, fp_add e m n]; grind
theorem fp_rF (a : Nat) : ∀ n, rF (a ^ n) = fp (rF a) n
  | 0 => rfl
  | n + 1 => by rw [Nat.pow_succ, rF_mul, fp_rF a n, fp_succ]
/-! ### inverses -/
def finv (e : F) : F := fp e (lN - 2)
theorem finv_mul {e : F} (h : e ≠ 0) : e * finv e = 1 := by
  have hd : ¬ lN ∣ e.val := fun hd => h (_root_.Fin.ext (by
    have := Nat.eq_zero_of_dvd_of_lt hd e.isLt
    rw [this]; rfl))
  have h1 := fermat pr_l hd
  have h2 : fp e (lN - 1) = 1 := by
    rw [← rF_val e, ← fp_rF, ← rF_one, rF_eq]; exact h1
  have h3 : lN - 1 = (lN - 2) + 1 := by decide
  rw [h3, fp_succ] at h2
  unfold finv
  rw [← h2]; grind
theorem mul_ne {a b : F} (ha : a ≠ 0) (hb : b ≠ 0) : a * b ≠ 0 := fun h => by
  have h1 := finv_mul ha
  have h2 := finv_mul hb
  have : (1 : F) = 0 := by
    have e : (1 : F) = (a * b) * (finv a * finv b) := by
      have : (a * b) * (finv a * finv b) = (a * finv a) * (b * finv b) := by grind
      rw [this, h1, h2]; grind
    rw [e, h]; grind
  exact absurd (congrArg _root_.Fin.val this) (by decide)
theorem fp_ne0 {e : F} (h : e ≠ 0) : ∀ n, fp e n ≠ 0
  | 0 => fun h => absurd (congrArg _root_.Fin.val (show (1 : F) = 0 from h)) (by decide)
  | n + 1 => mul_ne (fp_ne0 h n) h
end Go.Vc

/-
  Powers and inverses of scalars, the program's: contracts by residues.
-/
namespace Go.Vc
open Go Go.Proofs Go.RowKit
/-- 2^256 modulo l. -/
def RO : Nat := 7237005577332262213973186563042994240413239274941949949428319933631315875101
theorem RO_Ri : rF RO * rF Ri = 1 := by rw [← rF_mul, ← rF_one, rF_eq]; decide
theorem RR_Ri : rF RR * rF Ri = rF RO := by rw [← rF_mul, rF_eq]; decide
theorem ask_tabO {K : Value → Prop} : Ask (rSel (aggArr (.agg tabArr)) 4 4 true) K = K (S RO) :=
  (ask_eq fun v => ⟨fun h => h.2, fun h => ⟨by decide, h⟩⟩ : Ask (rSel (aggArr (.agg tabArr)) 4 4 true) K = K (L4 15486807595281847581 14334777244411350896 18446744073709551614 1152921504606846975)).trans (by rw [L4_S ⟨by decide, by decide, by decide, by decide⟩]; rfl)
theorem ask_tab2 {K : Value → Prop} : Ask (rSel (aggArr (.agg tabArr)) 12 4 true) K = K (S (lN - 2)) :=
  (ask_eq fun v => ⟨fun h => h.2, fun h => ⟨by decide, h⟩⟩ : Ask (rSel (aggArr (.agg tabArr)) 12 4 true) K = K (L4 6346243789798364139 1503914060200516822 0 1152921504606846976)).trans (by rw [L4_S ⟨by decide, by decide, by decide, by decide⟩]; rfl)
theorem lb_bit (e j : Nat) : lb e (j / 64) / 2 ^ (j % 64) % 2 = e / 2 ^ j % 2 := by
  unfold lb
  have h1 : e / B64 ^ (j / 64) % B64 / 2 ^ (j % 64) % 2 = e / B64 ^ (j / 64) / 2 ^ (j % 64) % 2 := by
    generalize e / B64 ^ (j / 64) = y
    have hj : j % 64 < 64 := Nat.mod_lt _ (by decide)
    obtain ⟨d, hd⟩ : ∃ d, 64 = j % 64 + (1 + d) := ⟨63 - j % 64, by omega⟩
    have hB : B64 = 2 ^ (j % 64) * (2 * 2 ^ d) := by
      have h2 : (2 : Nat) ^ 64 = 2 ^ (j % 64 + (1 + d)) := by rw [← hd]
      rw [Nat.pow_add, Nat.pow_add] at h2
      exact h2
    rw [hB, Nat.mod_mul_right_div_self, Nat.mod_mod_of_dvd _ (Nat.dvd_mul_right _ _)]
  rw [h1, Nat.div_div_eq_div_mul]
  have h2 : B64 ^ (j / 64) * 2 ^ (j % 64) = 2 ^ j := by
    have : B64 = 2 ^ 64 := rfl
    rw [this, ← Nat.pow_mul, ← Nat.pow_add, Nat.div_add_mod]
  rw [h2]
theorem bit_step (e j : Nat) : e / 2 ^ j = 2 * (e / 2 ^ (j + 1)) + e / 2 ^ j % 2 := by
  have : e / 2 ^ (j + 1) = e / 2 ^ j / 2 := by rw [Nat.pow_succ, Nat.div_div_eq_div_mul]
  rw [this]; omega
def encP (p : Nat × Nat × Nat) : List Value := [S p.1, S p.2.1, J p.2.2]
def domP (p : Nat × Nat × Nat) : Prop := (p.1 < W256 ∧ p.2.1 < W256) ∧ p.2.2 ≤ 256 ∧ p.2.1 < 2 ^ p.2.2
theorem injP (p q : Nat × Nat × Nat) (hp : domP p) (hq : domP q) (h : encP p = encP q) : p = q := by
  obtain ⟨a, b, c⟩ := p
  obtain ⟨a', b', c'⟩ := q
  simp only [encP, List.cons.injEq, and_true] at h
  obtain ⟨h1, h2, h3⟩ := h
  have e1 := S_inj hp.1.1 hq.1.1 h1
  have e2 := S_inj hp.1.2 hq.1.2 h2
  have e3 : c = c' := by simp only [Value.int.injEq, true_and] at h3; omega
  simp only at e1 e2
  rw [e1, e2, e3]
theorem mont_sq {m q : Nat} {x : F} (h : rF m = fp x q * rF RO) : rF (m * m * Ri % lN) = fp x (2 * q) * rF RO := by
  rw [rF_mod, rF_mul, rF_mul, h, show 2 * q = q + q by omega, fp_add]
  have := RO_Ri
  grind
theorem mont_mul {m b q : Nat} {x : F} (h : rF m = fp x q * rF RO) (hb : rF b = x * rF RO) : rF (m * b * Ri % lN) = fp x (q + 1) * rF RO := by
  rw [rF_mod, rF_mul, rF_mul, h, hb, fp_succ]
  have := RO_Ri
  grind
def ann99 : Ann := ⟨[(5, ([9, 10], [5]))], [102, 71], 70, [], [3, 4, 6, 7, 8], none, [], []⟩
def kb99_0 (b0 b1 b2 b3 b4 b5 : Nat) (x3 x5 x6 x7 x12 x15 : Value) : List KB := [⟨b0, false, 175, (aggArr x3)⟩, ⟨b1, true, 29, (aggArr x5)⟩, ⟨b2, true, 29, (aggArr x6)⟩, ⟨b3, true, 29, (aggArr x7)⟩, ⟨b4, true, 29, (aggArr x12)⟩, ⟨b5, true, 29, (aggArr x15)⟩]
theorem vc99 (X : Ctx) (β : Nat → Nat) (x0 x1 x2 x3 : Value) (b0 : Nat) : (run Tryz.prog ann99 99 [.x (.v 0), .x (.v 1), .x (.v 2)] [some ⟨.wh 3, 16, 175, false⟩] [(0, 0)] 5).den X (env0 [x0, x1, x2, x3] X.w0) 5 (upd β 0 b0) 1 (fun _ _ _ => False) = (
 Ask (rAgg 4 x0) fun x5 =>
 AskNew X.w0 fun b1 =>
 Ask (rAgg 4 x1) fun x6 =>
 AskNew X.w0 fun b2 =>
 Ask (rAgg 4 (.agg #[(U 0), (U 0), (U 0), (U 0)])) fun x7 =>
 AskNew X.w0 fun b3 =>
 AskF X 71 [x5] fun x8 =>
 Ask (rSel (aggArr x3) 8 4 true) fun x9 =>
 AskF X 102 [x8, x9] fun x10 =>
 Ask (rAgg 4 (.agg #[(U 0), (U 0), (U 0), (U 0)])) fun _ =>
 AskNew X.w0 fun b4 =>
 Ask (rAgg 4 x10) fun x12 =>
 Ask (rSel (aggArr x3) 4 4 true) fun x13 =>
 Ask (rAgg 4 (.agg #[(U 0), (U 0), (U 0), (U 0)])) fun _ =>
 AskNew X.w0 fun b5 =>
 Ask (rAgg 4 x13) fun x15 =>
 Ask (rBin X.P .sub 3 false true x2 (J 1)) fun x16 =>
 ∃ (I0 : List Value → World → Prop) (μ0 : List Value → World → Nat), (∀ w, KnownV X X.w0 [b5, b4] (kb99_0 b0 b1 b2 b3 b4 b5 x3 x5 x6 x7 x12 x15) w → I0 [(.bool false), x16, x15] w) ∧ ∀ x17 x18 x19 w20, I0 [x17, x18, x19] w20 →
 Ask (rBin X.P .geq 3 false true x18 (J 0)) fun x21 =>
 (∃ t, x21 = .bool t) ∧ (x21 = .bool true →
 (∃ t, x17 = .bool t) ∧ (x17 = .bool true →
 AskF X 102 [x19, x19] fun x22 =>
 Ask (rAgg 4 x22) fun x23 =>
 Ask (rBin X.P .quo 3 false true x18 (J 64)) fun x24 =>
 Ask (rIx 4 x24) fun x25 =>
 Ask (rSel (aggArr x6) (0 + intNat x25 * 1) 1 false) fun x26 =>
 Ask (rBin X.P .rem 3 false true x18 (J 64)) fun x27 =>
 Ask (rBin X.P .shr 22 false false x26 x27) fun x28 =>
 Ask (rBin X.P .and 22 false true x28 (U 1)) fun x29 =>
 Ask (rBin X.P .eql 22 false true x29 (U 1)) fun x30 =>
 (∃ t, x30 = .bool t) ∧ (x30 = .bool true →
 AskF X 102 [x23, x12] fun x31 =>
 Ask (rAgg 4 x31) fun x32 =>
 Ask (rBin X.P .sub 3 false true x18 (J 1)) fun x33 =>
 Again X w20 [b5, b5] [] fun w => I0 [(.bool true), x33, x32] w ∧ μ0 [(.bool true), x33, x32] w < μ0 [x17, x18, x19] w20) ∧ (x30 = .bool false →
 Ask (rBin X.P .sub 3 false true x18 (J 1)) fun x31 =>
 Again X w20 [b5] [] fun w => I0 [x17, x31, x23] w ∧ μ0 [x17, x31, x23] w < μ0 [x17, x18, x19] w20)) ∧ (x17 = .bool false →
 Ask (rBin X.P .quo 3 false true x18 (J 64)) fun x22 =>
 Ask (rIx 4 x22) fun x23 =>
 Ask (rSel (aggArr x6) (0 + intNat x23 * 1) 1 false) fun x24 =>
 Ask (rBin X.P .rem 3 false true x18 (J 64)) fun x25 =>
 Ask (rBin X.P .shr 22 false false x24 x25) fun x26 =>
 Ask (rBin X.P .and 22 false true x26 (U 1)) fun x27 =>
 Ask (rBin X.P .eql 22 false true x27 (U 1)) fun x28 =>
 (∃ t, x28 = .bool t) ∧ (x28 = .bool true →
 AskF X 102 [x19, x12] fun x29 =>
 Ask (rAgg 4 x29) fun x30 =>
 Ask (rBin X.P .sub 3 false true x18 (J 1)) fun x31 =>
 Again X w20 [b5] [] fun w => I0 [(.bool true), x31, x30] w ∧ μ0 [(.bool true), x31, x30] w < μ0 [x17, x18, x19] w20) ∧ (x28 = .bool false →
 Ask (rBin X.P .sub 3 false true x18 (J 1)) fun x29 =>
 Again X w20 [] [] fun w => I0 [x17, x29, x19] w ∧ μ0 [x17, x29, x19] w < μ0 [x17, x18, x19] w20))) ∧ (x21 = .bool false →
 AskF X 102 [x19, (.agg #[(U 1), (U 0), (U 0), (U 0)])] fun x22 =>
 Ask (rAgg 4 x22) fun x23 =>
 Ret X w20 [b3] [] x23)) := by kernel_rfl
def cPow : Contract := fnP encP domP (fun p v => v = S (fp (rF p.1) p.2.1).val)
theorem keepsPow : Keeps1 Tryz.prog GT 99 cPow := by
  refine keepsP (T := Tml) (A := ann99) injP hMix keepTml hGT (calls_of (by kernel_rfl)) (callsW_of (by kernel_rfl)) fun ⟨a, e, n⟩ w0 ⟨⟨ha, he⟩, hn, hen⟩ hG => ⟨[.x (.v 0), .x (.v 1), .x (.v 2)], [some ⟨.wh 3, 16, 175, false⟩], [(0, 0)], 5, env0 ([S a, S e, J n] ++ [.agg tabArr]) w0, fun b => b, 1, rfl, rfl, fun X hX => memT (k := 3) (xs := [S a, S e, J n]) hX hG rfl, fun X hP hS hw hX hR => ?_⟩
  subst hw; dsimp only at ha he hn hen hR
  simp only [List.cons_append, List.nil_append]
  have hb : (fun b : Nat => b) = upd (fun b => b) 0 0 := by funext b; unfold upd; split <;> simp_all
  rw [hb, vc99 X]
  rw [ask_aggS]; intro _ _; rw [ask_aggS]; intro _ _; rw [ask_zero4]; intro _ _
  refine call_PE hS (T := Tml) (f := 71) rfl a ha ?_
  rw [ask_tabR]
  refine call_PE hS (T := Tml) (f := 102) rfl (a % lN, RR) ⟨mod_l a, show RR < W256 by decide⟩ ?_
  dsimp only
  obtain ⟨x, hx⟩ : ∃ x, a % lN * RR * Ri % lN = x := ⟨_, rfl⟩
  have hxl : x < lN := hx ▸ mod_l _
  have hxF : rF x = rF a * rF RO := by
    rw [← hx, rF_mod, rF_mul, rF_mul, rF_mod]
    have := RR_Ri
    grind
  rw [hx, ask_zero4]; intro _ _
  rw [ask_aggS, ask_tabO, ask_zero4]; intro _ _
  rw [ask_aggS]
  rw [ask_sub, wrap_i64 (by omega) (by omega)]
  refine ⟨fun l w => ∃ (t : Bool) (k m : Nat), l = [.bool t, .int .i64 ((k : Int) - 1), S m] ∧ k ≤ n ∧ m < lN ∧ rF m = fp (rF a) (e / 2 ^ k) * rF RO ∧ (t = false → e / 2 ^ k = 0) ∧ Kn X w, fun l _ => match l with | [_, .int _ i, _] => (i + 1).toNat | _ => 0, fun w hw => ⟨false, n, RO, rfl, Nat.le_refl _, by decide, ?_, fun _ => Nat.div_eq_of_lt hen, hw.kn⟩, ?_⟩
  · rw [Nat.div_eq_of_lt hen, fp_zero]; grind
  rintro _ _ _ w ⟨t, k, m, hl, hk, hm, hmF, ht, hkn⟩
  simp only [List.cons.injEq, and_true] at hl
  obtain ⟨rfl, rfl, rfl⟩ := hl
  rw [ask_geq]
  refine a_ifD (fun hlt => ?_) fun hge => ?_
  · obtain ⟨j, rfl⟩ : ∃ j, k = j + 1 := ⟨k - 1, by simp at hlt; omega⟩
    have e1 : ((j + 1 : Nat) : Int) - 1 = (j : Int) := by omega
    rw [e1]
    have hj4 : j / 64 < 4 := by omega
    have hlb := lb_lt e (j / 64)
    have hbit := lb_bit e j
    have hstep := bit_step e j
    have again : ∀ (m' : Nat) (t' : Bool) (w' : World), m' < lN → rF m' = fp (rF a) (e / 2 ^ j) * rF RO → (t' = false → e / 2 ^ j = 0) → Kn X w' →
        (∃ (t : Bool) (k m : Nat), [.bool t', .int .i64 ((j : Int) - 1), S m'] = [.bool t, .int .i64 ((k : Int) - 1), S m] ∧ k ≤ n ∧ m < lN ∧ rF m = fp (rF a) (e / 2 ^ k) * rF RO ∧ (t = false → e / 2 ^ k = 0) ∧ Kn X w') := fun m' t' w' h1 h2 h3 h4 => ⟨t', j, m', rfl, by omega, h1, h2, h3, h4⟩
    refine a_if (fun htt => ?_) fun htf => ?_
    · refine call_PE hS (T := Tml) (f := 102) rfl (m, m) ⟨hm, l_W hm⟩ ?_
      dsimp only
      rw [ask_aggS]
      have hsq := mont_sq hmF
      have hsl := mod_l (m * m * Ri)
      rw [ask_quoN (by omega) (by omega), ask_ixN hj4, ask_selSk hj4, ask_remN (by omega), ask_ushr (Nat.mod_lt _ (by decide)), ask_umask (k := 1) (Nat.lt_of_le_of_lt (Nat.div_le_self _ _) hlb) rfl (by decide), ask_ueql]
      refine a_ifD (fun hb1 => ?_) fun hb0 => ?_
      · rw [show (2 : Nat) ^ 1 = 2 from rfl, hbit] at hb1
        refine call_PE hS (T := Tml) (f := 102) rfl (m * m * Ri % lN, x) ⟨hsl, l_W hxl⟩ ?_
        dsimp only
        rw [ask_aggS, ask_sub, wrap_i64 (by omega) (by omega)]
        intro w2 hw2
        refine ⟨again _ true w2 (mod_l _) ?_ (fun h => by cases h) hw2.kn, by simp <;> omega⟩
        rw [mont_mul hsq hxF, hstep, hb1]
      · rw [show (2 : Nat) ^ 1 = 2 from rfl, hbit] at hb0
        rw [ask_sub, wrap_i64 (by omega) (by omega)]
        intro w2 hw2
        refine ⟨again _ t w2 hsl ?_ (fun h => by rw [htt] at h; cases h) hw2.kn, by simp <;> omega⟩
        rw [hsq, hstep, show e / 2 ^ j % 2 = 0 by omega]
        rfl
    · have hz := ht htf
      rw [hz] at hmF hstep
      rw [ask_quoN (by omega) (by omega), ask_ixN hj4, ask_selSk hj4, ask_remN (by omega), ask_ushr (Nat.mod_lt _ (by decide)), ask_umask (k := 1) (Nat.lt_of_le_of_lt (Nat.div_le_self _ _) hlb) rfl (by decide), ask_ueql]
      refine a_ifD (fun hb1 => ?_) fun hb0 => ?_
      · rw [show (2 : Nat) ^ 1 = 2 from rfl, hbit] at hb1
        refine call_PE hS (T := Tml) (f := 102) rfl (m, x) ⟨hm, l_W hxl⟩ ?_
        dsimp only
        rw [ask_aggS, ask_sub, wrap_i64 (by omega) (by omega)]
        intro w2 hw2
        refine ⟨again _ true w2 (mod_l _) ?_ (fun h => by cases h) hw2.kn, by simp <;> omega⟩
        rw [mont_mul hmF hxF, hstep, hb1]
      · rw [show (2 : Nat) ^ 1 = 2 from rfl, hbit] at hb0
        rw [ask_sub, wrap_i64 (by omega) (by omega)]
        intro w2 hw2
        refine ⟨again _ t w2 hm ?_ (fun _ => by omega) hw2.kn, by simp <;> omega⟩
        rw [hmF, hstep, show e / 2 ^ j % 2 = 0 by omega]
  · obtain rfl : k = 0 := by simp at hge; omega
    have h1 : Value.agg #[U 1, U 0, U 0, U 0] = S 1 := rfl
    rw [h1]
    refine call_PE hS (T := Tml) (f := 102) rfl (m, 1) ⟨hm, show 1 < W256 by decide⟩ ?_
    dsimp only
    rw [ask_aggS]
    refine hR _ _ _ _ (congrArg S ?_)
    have : rF (m * 1 * Ri) = fp (rF a) e := by
      rw [Nat.mul_one, rF_mul, hmF, Nat.pow_zero, Nat.div_one]
      have := RO_Ri
      grind
    rw [← this, val_rF]
def ann47 : Ann := ⟨[], [99], 70, [], [1, 2], none, [], []⟩
theorem vc47 (X : Ctx) (β : Nat → Nat) (x0 x1 : Value) : (run Tryz.prog ann47 47 [.x (.v 0)] [some ⟨.wh 1, 16, 175, false⟩] [(0, 0)] 3).den X (env0 [x0, x1] X.w0) 3 β 1 (fun _ _ _ => False) = (
 Ask (rAgg 4 x0) fun x3 =>
 AskNew X.w0 fun _ =>
 Ask (rAgg 4 (.agg #[(U 0), (U 0), (U 0), (U 0)])) fun _ =>
 AskNew X.w0 fun b2 =>
 Ask (rSel (aggArr x1) 12 4 true) fun x5 =>
 AskF X 99 [x3, x5, (J 253)] fun x6 =>
 Ask (rAgg 4 x6) fun x7 =>
 Ret X X.w0 [b2] [] x7) := by kernel_rfl
def cInv : Contract := fnP enc1 (· < W256) (fun n v => v = S (finv (rF n)).val)
def Tiv : Table := T0.add 99 cPow
theorem keepTiv : AllKeep Tryz.prog GT Tiv := keepT0.add keepsPow
theorem keepsInv : Keeps1 Tryz.prog GT 47 cInv := by
  refine keepsP (T := Tiv) (A := ann47) inj1 hMix keepTiv hGT (calls_of (by kernel_rfl)) (callsW_of (by kernel_rfl)) fun a w0 ha hG => ⟨[.x (.v 0)], [some ⟨.wh 1, 16, 175, false⟩], [(0, 0)], 3, env0 ([S a] ++ [.agg tabArr]) w0, fun b => b, 1, rfl, rfl, fun X hX => memT (k := 1) (xs := [S a]) hX hG rfl, fun X hP hS hw hX hR => ?_⟩
  subst hw
  simp only [List.cons_append, List.nil_append]
  rw [vc47 X]
  rw [ask_aggS]; intro _ _; rw [ask_zero4]; intro _ _
  rw [ask_tab2]
  refine call_PE hS (T := Tiv) (f := 99) rfl (a, lN - 2, 253) ⟨⟨ha, show lN - 2 < W256 by decide⟩, show 253 ≤ 256 by decide, show lN - 2 < 2 ^ 253 by decide⟩ ?_
  dsimp only
  rw [ask_aggS]
  exact hR _ _ _ _ rfl
#print axioms keepsInv
end Go.Vc

/-
  Inverses and powers of scalars, the document's: contracts by residues.
-/
namespace Go.Vc
open Go Go.Proofs Go.RowKit
/-! ### halves -/
section
variable {P : Program} {K : Value → Prop} {ty : TypeId} {cx cy : Bool} {a b c d t : Nat}
end
/-! ### inverses -/
/-! ### powers -/
end Go.Vc
