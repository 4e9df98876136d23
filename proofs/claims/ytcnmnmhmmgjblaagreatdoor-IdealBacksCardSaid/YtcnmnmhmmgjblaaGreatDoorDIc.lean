/-
  Inverses and powers of scalars, the document's: contracts by residues.
-/
import Derived.Test.YtcnmnmhmmgjblaaGreatDoorDIb
import Derived.Test.YtcnmnmhmmgjblaaGreatDoorDRm2
namespace Go.Vc
open Go Go.Proofs Go.RowKit
/-! ### halves -/
def halfN (n : Nat) : Nat := if n % 2 = 0 then n / 2 else (n + lN) / 2
theorem lN_odd : lN % 2 = 1 := by decide
theorem halfN_lt {n : Nat} (h : n < lN) : halfN n < lN := by unfold halfN; have := lN_odd; split <;> omega
theorem halfN_F {n : Nat} : rF (halfN n) + rF (halfN n) = rF n := by
  rw [← rF_add, rF_eq]
  unfold halfN
  have := lN_odd
  split
  · rw [show n / 2 + n / 2 = n by omega]
  · rw [show (n + lN) / 2 + (n + lN) / 2 = n + lN by omega, Nat.add_mod_right]
theorem F_half {a b : F} (h : a + a = b + b) : a = b := by
  have e : rF ((lN + 1) / 2) + rF ((lN + 1) / 2) = 1 := by rw [← rF_add, ← rF_one, rF_eq]; decide
  have e1 : a = (a + a) * rF ((lN + 1) / 2) := by
    have : (a + a) * rF ((lN + 1) / 2) = a * (rF ((lN + 1) / 2) + rF ((lN + 1) / 2)) := by grind
    rw [this, e]; grind
  have e2 : b = (b + b) * rF ((lN + 1) / 2) := by
    have : (b + b) * rF ((lN + 1) / 2) = b * (rF ((lN + 1) / 2) + rF ((lN + 1) / 2)) := by grind
    rw [this, e]; grind
  rw [e1, e2, h]
section
variable {P : Program} {K : Value → Prop} {ty : TypeId} {cx cy : Bool} {a b c d t : Nat}
theorem ask_updL0 : Ask (rUpd (aggArr (L4 a b c d)) 0 1 (U t)) K = K (L4 t b c d) := ask_eq fun v => ⟨fun h => h.2.2.2, fun h => ⟨by show 0 + 1 ≤ 4; omega, rfl, by simp [U, Value.cells, Value.oneCell'], h⟩⟩
theorem ask_updL1 : Ask (rUpd (aggArr (L4 a b c d)) 1 1 (U t)) K = K (L4 a t c d) := ask_eq fun v => ⟨fun h => h.2.2.2, fun h => ⟨by show 1 + 1 ≤ 4; omega, rfl, by simp [U, Value.cells, Value.oneCell'], h⟩⟩
theorem ask_updL2 : Ask (rUpd (aggArr (L4 a b c d)) 2 1 (U t)) K = K (L4 a b t d) := ask_eq fun v => ⟨fun h => h.2.2.2, fun h => ⟨by show 2 + 1 ≤ 4; omega, rfl, by simp [U, Value.cells, Value.oneCell'], h⟩⟩
theorem ask_updL3 : Ask (rUpd (aggArr (L4 a b c d)) 3 1 (U t)) K = K (L4 a b c t) := ask_eq fun v => ⟨fun h => h.2.2.2, fun h => ⟨by show 3 + 1 ≤ 4; omega, rfl, by simp [U, Value.cells, Value.oneCell'], h⟩⟩
theorem ask_hor {x y : Nat} (hx : x < B64) : Ask (rBin P .or ty cx cy (U (x / 2 ^ 1)) (U (y * 2 ^ 63 % B64))) K = K (U (x / 2 + y % 2 * 2 ^ 63)) := by
  have e : y * 2 ^ 63 % B64 = y % 2 * 2 ^ 63 := by simp only [B64]; omega
  rw [e, ask_uorD 63 (by simp only [B64]; omega) (Nat.mul_mod_left _ _) (by simp only [B64] at hx; omega) (by simp only [B64] at *; omega)]
end
theorem half_S {m : Nat} (h : m < W256) : L4 (lb m 0 / 2 + lb m 1 % 2 * 2 ^ 63) (lb m 1 / 2 + lb m 2 % 2 * 2 ^ 63) (lb m 2 / 2 + lb m 3 % 2 * 2 ^ 63) (lb m 3 / 2 + 0 % 2 * 2 ^ 63) = S (m / 2) := by
  have l0 := lb_lt m 0; have l1 := lb_lt m 1; have l2 := lb_lt m 2; have l3 := lb_lt m 3
  have hs := limbs_sum m h
  simp only [B64] at l0 l1 l2 l3
  rw [L4_S ⟨by simp only [B64]; omega, by simp only [B64]; omega, by simp only [B64]; omega, by simp only [B64]; omega⟩]
  refine congrArg S ?_
  simp only [N4, B64] at *
  omega
def ann113 : Ann := ⟨[], [112, 130], 70, [], [1, 2, 3], none, [], []⟩
theorem vc113 (X : Ctx) (β : Nat → Nat) (x0 : Value) : (run Tryz.prog ann113 113 [.x (.v 0)] [] [] 2).den X (env0 [x0] X.w0) 2 β 0 (fun _ _ _ => False) = (
 Ask (rAgg 4 x0) fun x2 =>
 AskNew X.w0 fun _ =>
 Ask (rAgg 4 (.agg #[(U 0), (U 0), (U 0), (U 0)])) fun _ =>
 AskNew X.w0 fun b1 =>
 Ask (rAgg 4 (.agg #[(U 0), (U 0), (U 0), (U 0)])) fun _ =>
 AskNew X.w0 fun b2 =>
 Ask (rAgg 4 x2) fun x5 =>
 Ask (rSel (aggArr x5) 0 1 false) fun x6 =>
 Ask (rBin X.P .and 22 false true x6 (U 1)) fun x7 =>
 Ask (rBin X.P .eql 22 false true x7 (U 1)) fun x8 =>
 (∃ t, x8 = .bool t) ∧ (x8 = .bool true →
 AskF X 112 [] fun x9 =>
 AskF X 130 [x5, x9] fun x10 =>
 Ask (rExt X.P x10 0) fun x11 =>
 Ask (rExt X.P x10 1) fun x12 =>
 Ask (rAgg 4 x11) fun x13 =>
 Ask (rSel (aggArr x13) 0 1 false) fun x14 =>
 Ask (rBin X.P .shr 22 false true x14 (U 1)) fun x15 =>
 Ask (rSel (aggArr x13) 1 1 false) fun x16 =>
 Ask (rBin X.P .shl 22 false true x16 (U 63)) fun x17 =>
 Ask (rBin X.P .or 22 false false x15 x17) fun x18 =>
 Ask (rUpd (aggArr x13) 0 1 x18) fun x19 =>
 Ask (rSel (aggArr x19) 1 1 false) fun x20 =>
 Ask (rBin X.P .shr 22 false true x20 (U 1)) fun x21 =>
 Ask (rSel (aggArr x19) 2 1 false) fun x22 =>
 Ask (rBin X.P .shl 22 false true x22 (U 63)) fun x23 =>
 Ask (rBin X.P .or 22 false false x21 x23) fun x24 =>
 Ask (rUpd (aggArr x19) 1 1 x24) fun x25 =>
 Ask (rSel (aggArr x25) 2 1 false) fun x26 =>
 Ask (rBin X.P .shr 22 false true x26 (U 1)) fun x27 =>
 Ask (rSel (aggArr x25) 3 1 false) fun x28 =>
 Ask (rBin X.P .shl 22 false true x28 (U 63)) fun x29 =>
 Ask (rBin X.P .or 22 false false x27 x29) fun x30 =>
 Ask (rUpd (aggArr x25) 2 1 x30) fun x31 =>
 Ask (rSel (aggArr x31) 3 1 false) fun x32 =>
 Ask (rBin X.P .shr 22 false true x32 (U 1)) fun x33 =>
 Ask (rBin X.P .shl 22 false true x12 (U 63)) fun x34 =>
 Ask (rBin X.P .or 22 false false x33 x34) fun x35 =>
 Ask (rUpd (aggArr x31) 3 1 x35) fun x36 =>
 Ask (rAgg 4 x36) fun x37 =>
 Ret X X.w0 [b1, b2, b2, b2, b2, b2, b2] [] x37) ∧ (x8 = .bool false →
 Ask (rSel (aggArr x5) 0 1 false) fun x9 =>
 Ask (rBin X.P .shr 22 false true x9 (U 1)) fun x10 =>
 Ask (rSel (aggArr x5) 1 1 false) fun x11 =>
 Ask (rBin X.P .shl 22 false true x11 (U 63)) fun x12 =>
 Ask (rBin X.P .or 22 false false x10 x12) fun x13 =>
 Ask (rUpd (aggArr x5) 0 1 x13) fun x14 =>
 Ask (rSel (aggArr x14) 1 1 false) fun x15 =>
 Ask (rBin X.P .shr 22 false true x15 (U 1)) fun x16 =>
 Ask (rSel (aggArr x14) 2 1 false) fun x17 =>
 Ask (rBin X.P .shl 22 false true x17 (U 63)) fun x18 =>
 Ask (rBin X.P .or 22 false false x16 x18) fun x19 =>
 Ask (rUpd (aggArr x14) 1 1 x19) fun x20 =>
 Ask (rSel (aggArr x20) 2 1 false) fun x21 =>
 Ask (rBin X.P .shr 22 false true x21 (U 1)) fun x22 =>
 Ask (rSel (aggArr x20) 3 1 false) fun x23 =>
 Ask (rBin X.P .shl 22 false true x23 (U 63)) fun x24 =>
 Ask (rBin X.P .or 22 false false x22 x24) fun x25 =>
 Ask (rUpd (aggArr x20) 2 1 x25) fun x26 =>
 Ask (rSel (aggArr x26) 3 1 false) fun x27 =>
 Ask (rBin X.P .shr 22 false true x27 (U 1)) fun x28 =>
 Ask (rBin X.P .shl 22 false true (U 0) (U 63)) fun x29 =>
 Ask (rBin X.P .or 22 false false x28 x29) fun x30 =>
 Ask (rUpd (aggArr x26) 3 1 x30) fun x31 =>
 Ask (rAgg 4 x31) fun x32 =>
 Ret X X.w0 [b1, b2, b2, b2, b2, b2] [] x32)) := by kernel_rfl
def cHalf : Contract := fnP enc1 (· ≤ lN) (fun n v => v = S (halfN n))
theorem keepsHalf : Keeps1 Tryz.prog GT 113 cHalf := by
  have hlW : ∀ {n : Nat}, n ≤ lN → n < W256 := fun h => Nat.lt_of_le_of_lt h lN_lt
  refine keepsP (T := T2r) (A := ann113) (fun a b ha hb => inj1 a b (hlW ha) (hlW hb)) hMix keepT2r hGT (calls_of (by kernel_rfl)) (callsW_of (by kernel_rfl)) fun n w0 hn _ => ⟨[.x (.v 0)], [], [], 2, env0 [S n] w0, fun b => b, 0, rfl, rfl, fun X hX => mem_none hX rfl, fun X hP hS hw hX hR => ?_⟩
  subst hw
  have tail : ∀ (m : Nat) (K : Value → Prop) (t1 t2 t3 t4 t5 t6 t7 t8 t9 t10 t11 : TypeId), m < W256 → K (S (m / 2)) → (
      Ask (rSel (aggArr (S m)) 0 1 false) fun x14 =>
      Ask (rBin X.P .shr t1 false true x14 (U 1)) fun x15 =>
      Ask (rSel (aggArr (S m)) 1 1 false) fun x16 =>
      Ask (rBin X.P .shl t2 false true x16 (U 63)) fun x17 =>
      Ask (rBin X.P .or t3 false false x15 x17) fun x18 =>
      Ask (rUpd (aggArr (S m)) 0 1 x18) fun x19 =>
      Ask (rSel (aggArr x19) 1 1 false) fun x20 =>
      Ask (rBin X.P .shr t4 false true x20 (U 1)) fun x21 =>
      Ask (rSel (aggArr x19) 2 1 false) fun x22 =>
      Ask (rBin X.P .shl t5 false true x22 (U 63)) fun x23 =>
      Ask (rBin X.P .or t6 false false x21 x23) fun x24 =>
      Ask (rUpd (aggArr x19) 1 1 x24) fun x25 =>
      Ask (rSel (aggArr x25) 2 1 false) fun x26 =>
      Ask (rBin X.P .shr t7 false true x26 (U 1)) fun x27 =>
      Ask (rSel (aggArr x25) 3 1 false) fun x28 =>
      Ask (rBin X.P .shl t8 false true x28 (U 63)) fun x29 =>
      Ask (rBin X.P .or t9 false false x27 x29) fun x30 =>
      Ask (rUpd (aggArr x25) 2 1 x30) fun x31 =>
      Ask (rSel (aggArr x31) 3 1 false) fun x32 =>
      Ask (rBin X.P .shr t10 false true x32 (U 1)) fun x33 =>
      Ask (rBin X.P .shl t11 false true (U 0) (U 63)) fun x34 =>
      Ask (rBin X.P .or t11 false false x33 x34) fun x35 =>
      Ask (rUpd (aggArr x31) 3 1 x35) fun x36 =>
      Ask (rAgg 4 x36) K) := fun m K _ _ _ _ _ _ _ _ _ _ _ hm hK => by
    rw [S_L4, ask_L40, ask_ushrU (by decide), ask_L41, ask_ushlU (by decide), ask_hor (lb_lt _ _), ask_updL0, ask_L41, ask_ushrU (by decide), ask_L42, ask_ushlU (by decide), ask_hor (lb_lt _ _), ask_updL1,
      ask_L42, ask_ushrU (by decide), ask_L43, ask_ushlU (by decide), ask_hor (lb_lt _ _), ask_updL2, ask_L43, ask_ushrU (by decide), ask_ushlU (by decide), ask_hor (lb_lt _ _), ask_updL3, half_S hm, ask_aggS]
    exact hK
  rw [vc113 X]
  rw [ask_aggS]; intro _ _; rw [ask_zero4]; intro _ _; rw [ask_zero4]; intro _ _
  have hn' := hlW hn
  have hev : lb n 0 % 2 ^ 1 = n % 2 := by
    have := limbs_sum n hn'
    simp only [B64] at this; omega
  rw [ask_aggS, ask_selS0, ask_umask (k := 1) (lb_lt _ _) rfl (by decide), ask_ueql, hev]
  refine a_ifD (fun h => ?_) fun h => ?_
  · refine call_PE hS (T := T2r) (f := 112) rfl () trivial ?_
    refine call_PE hS (T := T2r) (f := 130) rfl (n, lN) ⟨hn', lN_lt⟩ ?_
    dsimp only
    have h2 : n + lN < W256 := Nat.lt_of_le_of_lt (Nat.add_le_add_right hn _) (by decide)
    rw [ask_ext0, ask_ext1, Nat.mod_eq_of_lt h2, Nat.div_eq_of_lt h2, ask_aggS]
    refine tail (n + lN) _ _ _ _ _ _ _ _ _ _ _ _ h2 (hR _ _ _ _ (congrArg S ?_))
    unfold halfN; rw [if_neg (by omega)]
  · refine tail n _ _ _ _ _ _ _ _ _ _ _ _ hn' (hR _ _ _ _ (congrArg S ?_))
    unfold halfN; rw [if_pos (by omega)]
def ann58 : Ann := ⟨[], [106, 116], 70, [], [2, 3, 4], none, [], []⟩
theorem vc58 (X : Ctx) (β : Nat → Nat) (x0 x1 : Value) : (run Tryz.prog ann58 58 [.x (.v 0), .x (.v 1)] [] [] 3).den X (env0 [x0, x1] X.w0) 3 β 0 (fun _ _ _ => False) = (
 Ask (rAgg 4 x0) fun x3 =>
 AskNew X.w0 fun _ =>
 Ask (rAgg 4 x1) fun x4 =>
 AskNew X.w0 fun _ =>
 Ask (rAgg 4 (.agg #[(U 0), (U 0), (U 0), (U 0)])) fun _ =>
 AskNew X.w0 fun b2 =>
 AskF X 116 [x4] fun x6 =>
 AskF X 106 [x3, x6] fun x7 =>
 Ask (rAgg 4 x7) fun x8 =>
 Ret X X.w0 [b2] [] x8) := by kernel_rfl
abbrev domR (p : Nat × Nat) : Prop := p.1 < lN ∧ p.2 < lN
def cRSub : Contract := fnP enc2 domR (fun p v => v = S (rF p.1 - rF p.2).val)
def Trs : Table := (T0.add 106 cRAdd).add 116 cRNeg
theorem keepTrs : AllKeep Tryz.prog GT Trs := (keepT0.add keepsRAdd).add keepsRNeg
theorem injR (a b : Nat × Nat) (ha : domR a) (hb : domR b) (h : enc2 a = enc2 b) : a = b := inj2 a b ⟨l_W ha.1, l_W ha.2⟩ ⟨l_W hb.1, l_W hb.2⟩ h
theorem keepsRSub : Keeps1 Tryz.prog GT 58 cRSub := by
  refine keepsP (T := Trs) (A := ann58) injR hMix keepTrs hGT (calls_of (by kernel_rfl)) (callsW_of (by kernel_rfl)) fun ⟨a, b⟩ w0 ⟨ha, hb⟩ _ => ⟨[.x (.v 0), .x (.v 1)], [], [], 3, env0 [S a, S b] w0, fun b => b, 0, rfl, rfl, fun X hX => mem_none hX rfl, fun X hP hS hw hX hR => ?_⟩
  subst hw
  rw [vc58 X]
  dsimp only at ha hb hR
  rw [ask_aggS]; intro _ _; rw [ask_aggS]; intro _ _; rw [ask_zero4]; intro _ _
  refine call_PE hS (T := Trs) (f := 116) rfl b hb ?_
  refine call_PE hS (T := Trs) (f := 106) rfl (a, subL 0 b) ⟨ha, subL_lt (by decide)⟩ ?_
  dsimp only
  rw [ask_aggS]
  refine hR _ _ _ _ (congrArg S ?_)
  rw [val_addF, rF_subL hb, rF_zero]
  congr 1; grind
/-! ### inverses -/
/-- The number whose limbs these are. -/
noncomputable def numS (v : Value) : Nat := open Classical in if h : ∃ n, n < W256 ∧ v = S n then h.choose else 0
theorem numS_S {n : Nat} (h : n < W256) : numS (S n) = n := by
  have hx : ∃ m, m < W256 ∧ S n = S m := ⟨n, h, rfl⟩
  unfold numS
  rw [dif_pos hx]
  exact (S_inj h hx.choose_spec.1 hx.choose_spec.2).symm
structure Gc (a : F) (u v x y : Nat) : Prop where
  up : 0 < u
  ul : u ≤ lN
  vp : 0 < v
  vl : v ≤ lN
  xl : x < lN
  yl : y < lN
  ux : rF u = a * rF x
  vy : rF v = a * rF y
  co : Nat.Coprime u v
theorem half_rel {a : F} {u x : Nat} (h : rF u = a * rF x) (hu : u % 2 = 0) : rF (u / 2) = a * rF (halfN x) := by
  have h1 := halfN_F (n := u)
  have h2 := halfN_F (n := x)
  unfold halfN at h1
  rw [if_pos hu] at h1
  refine F_half ?_
  rw [h1, h, ← h2]; grind
theorem Gc.halfU {a : F} {u v x y : Nat} (g : Gc a u v x y) (hu : u % 2 = 0) : Gc a (u / 2) v (halfN x) y :=
  ⟨by have := g.up; omega, by have := g.ul; omega, g.vp, g.vl, halfN_lt g.xl, g.yl, half_rel g.ux hu, g.vy, Nat.Coprime.coprime_dvd_left ⟨2, by omega⟩ g.co⟩
theorem Gc.halfV {a : F} {u v x y : Nat} (g : Gc a u v x y) (hv : v % 2 = 0) : Gc a u (v / 2) x (halfN y) :=
  ⟨g.up, g.ul, by have := g.vp; omega, by have := g.vl; omega, g.xl, halfN_lt g.yl, g.ux, half_rel g.vy hv, (Nat.Coprime.coprime_dvd_left ⟨2, by omega⟩ g.co.symm).symm⟩
theorem cop_sub {u v : Nat} (h : u ≤ v) (g : Nat.Coprime u v) : Nat.Coprime u (v - u) := by
  unfold Nat.Coprime at *
  have := Nat.gcd_add_self_right u (v - u)
  rw [Nat.sub_add_cancel h] at this
  omega
theorem rF_sub' {a b : Nat} (h : b ≤ a) : rF (a - b) = rF a - rF b := by
  have : rF (a - b) + rF b = rF a := by rw [← rF_add, Nat.sub_add_cancel h]
  rw [← this]; grind
theorem Gc.subV {a : F} {u v x y : Nat} (g : Gc a u v x y) (h : u < v) : Gc a u (v - u) x (rF y - rF x).val :=
  ⟨g.up, g.ul, by omega, by have := g.vl; omega, g.xl, (rF y - rF x).isLt, g.ux, by rw [rF_sub' (Nat.le_of_lt h), g.ux, g.vy, rF_val]; grind, cop_sub (Nat.le_of_lt h) g.co⟩
theorem Gc.subU {a : F} {u v x y : Nat} (g : Gc a u v x y) (h : v < u) : Gc a (u - v) v (rF x - rF y).val y :=
  ⟨by omega, by have := g.ul; omega, g.vp, g.vl, (rF x - rF y).isLt, g.yl, by rw [rF_sub' (Nat.le_of_lt h), g.ux, g.vy, rF_val]; grind, g.vy, (cop_sub (Nat.le_of_lt h) g.co.symm).symm⟩
theorem Gc.ne {a : F} {u v x y : Nat} (g : Gc a u v x y) (h : u ≠ 1 ∨ v ≠ 1) : u ≠ v := fun e => by
  have := g.co
  rw [e] at this
  unfold Nat.Coprime at this
  rw [Nat.gcd_self] at this
  omega
theorem Gc.end {a : F} {u v x y : Nat} (g : Gc a u v x y) (h : u = 1) : x = (finv a).val := by
  have h1 := g.ux
  rw [h] at h1
  have := finv_of h1.symm
  rw [← this, val_of_lt g.xl]
theorem Gc.symm {a : F} {u v x y : Nat} (g : Gc a u v x y) : Gc a v u y x := ⟨g.vp, g.vl, g.up, g.ul, g.yl, g.xl, g.vy, g.ux, g.co.symm⟩
theorem Gc.zero {a : Nat} (h : a < lN) (h0 : a ≠ 0) : Gc (rF a) a lN 1 0 := ⟨by omega, by omega, lN_pos, Nat.le_refl _, by decide, by decide, by rw [rF_one]; grind, by rw [rF_zero]; have : rF lN = 0 := rF_eq0.2 (Nat.mod_self _); rw [this]; grind, pr_l.cop fun hd => by have := Nat.le_of_dvd (by omega) hd; omega⟩
def ann56 : Ann := ⟨[(8, ([], [0, 1, 2, 3, 4, 5, 6])), (9, ([], [2, 4])), (12, ([], [3, 5]))], [54, 112, 57, 113, 114, 115, 58], 70, [], [1, 2, 3, 4, 5, 6, 7], none, [], []⟩
def kb56_0 (b0 b1 b2 b3 b4 b5 b6 : Nat) (x2 x3 x6 x9 x12 x14 x17 : Value) : List KB := [⟨b0, true, 49, (aggArr x2)⟩, ⟨b1, true, 49, (aggArr x3)⟩, ⟨b2, true, 49, (aggArr x6)⟩, ⟨b3, true, 49, (aggArr x9)⟩, ⟨b4, true, 49, (aggArr x12)⟩, ⟨b5, true, 49, (aggArr x14)⟩, ⟨b6, true, 49, (aggArr x17)⟩]
def kb56_1 (b0 b1 b2 b3 b4 b5 b6 : Nat) (x18 x19 x20 x21 x22 x23 x24 : Value) : List KB := [⟨b0, true, 49, (aggArr x18)⟩, ⟨b1, true, 49, (aggArr x19)⟩, ⟨b2, true, 49, (aggArr x20)⟩, ⟨b3, true, 49, (aggArr x21)⟩, ⟨b4, true, 49, (aggArr x22)⟩, ⟨b5, true, 49, (aggArr x23)⟩, ⟨b6, true, 49, (aggArr x24)⟩]
def kb56_2 (b0 b1 b2 b3 b4 b5 b6 : Nat) (x18 x19 x29 x21 x30 x23 x24 : Value) : List KB := [⟨b0, true, 49, (aggArr x18)⟩, ⟨b1, true, 49, (aggArr x19)⟩, ⟨b2, true, 49, (aggArr x29)⟩, ⟨b3, true, 49, (aggArr x21)⟩, ⟨b4, true, 49, (aggArr x30)⟩, ⟨b5, true, 49, (aggArr x23)⟩, ⟨b6, true, 49, (aggArr x24)⟩]
theorem vc56 (X : Ctx) (β : Nat → Nat) (x0 : Value) : (run Tryz.prog ann56 56 [.x (.v 0)] [] [] 2).den X (env0 [x0] X.w0) 2 β 0 (fun _ _ _ => False) = (
 Ask (rAgg 4 x0) fun x2 =>
 AskNew X.w0 fun b0 =>
 Ask (rAgg 4 (.agg #[(U 0), (U 0), (U 0), (U 0)])) fun x3 =>
 AskNew X.w0 fun b1 =>
 AskF X 54 [x2] fun x4 =>
 (∃ t, x4 = .bool t) ∧ (x4 = .bool true →
 Ask (rAgg 4 x2) fun x5 =>
 Ret X X.w0 [b1] [] x5) ∧ (x4 = .bool false →
 Ask (rAgg 4 (.agg #[(U 0), (U 0), (U 0), (U 0)])) fun _ =>
 AskNew X.w0 fun b2 =>
 Ask (rAgg 4 x2) fun x6 =>
 AskF X 112 [] fun x7 =>
 Ask (rAgg 4 (.agg #[(U 0), (U 0), (U 0), (U 0)])) fun _ =>
 AskNew X.w0 fun b3 =>
 Ask (rAgg 4 x7) fun x9 =>
 AskF X 57 [(U 1)] fun x10 =>
 Ask (rAgg 4 (.agg #[(U 0), (U 0), (U 0), (U 0)])) fun _ =>
 AskNew X.w0 fun b4 =>
 Ask (rAgg 4 x10) fun x12 =>
 Ask (rAgg 4 (.agg #[(U 0), (U 0), (U 0), (U 0)])) fun _ =>
 AskNew X.w0 fun b5 =>
 Ask (rAgg 4 (.agg #[(U 0), (U 0), (U 0), (U 0)])) fun x14 =>
 AskF X 57 [(U 1)] fun x15 =>
 Ask (rAgg 4 (.agg #[(U 0), (U 0), (U 0), (U 0)])) fun _ =>
 AskNew X.w0 fun b6 =>
 Ask (rAgg 4 x15) fun x17 =>
 ∃ (I0 : List Value → World → Prop) (μ0 : List Value → World → Nat), (∀ w, KnownV X X.w0 [b6, b5, b4, b3, b2] (kb56_0 b0 b1 b2 b3 b4 b5 b6 x2 x3 x6 x9 x12 x14 x17) w → I0 [x2, x3, x6, x9, x12, x14, x17] w) ∧ ∀ x18 x19 x20 x21 x22 x23 x24 w25, I0 [x18, x19, x20, x21, x22, x23, x24] w25 →
 Ask (rBin X.P .neq 49 false false x20 x24) fun x26 =>
 AskG [(x26, true)] (rBin X.P .neq 49 false false x21 x24) fun x27 =>
 Ask (rPick x26 x27 (.bool false)) fun x28 =>
 (∃ t, x28 = .bool t) ∧ (x28 = .bool true →
 ∃ (I1 : List Value → World → Prop) (μ1 : List Value → World → Nat), (∀ w, KnownV X w25 [] (kb56_1 b0 b1 b2 b3 b4 b5 b6 x18 x19 x20 x21 x22 x23 x24) w → I1 [x20, x22] w) ∧ ∀ x29 x30 w31, I1 [x29, x30] w31 →
 Ask (rSel (aggArr x29) 0 1 false) fun x32 =>
 Ask (rBin X.P .and 22 false true x32 (U 1)) fun x33 =>
 Ask (rBin X.P .eql 22 false true x33 (U 0)) fun x34 =>
 (∃ t, x34 = .bool t) ∧ (x34 = .bool true →
 AskF X 113 [x29] fun x35 =>
 Ask (rAgg 4 x35) fun x36 =>
 AskF X 113 [x30] fun x37 =>
 Ask (rAgg 4 x37) fun x38 =>
 Again X w31 [b4, b2] [] fun w => I1 [x36, x38] w ∧ μ1 [x36, x38] w < μ1 [x29, x30] w31) ∧ (x34 = .bool false →
 ∃ (I1 : List Value → World → Prop) (μ1 : List Value → World → Nat), (∀ w, KnownV X w31 [] (kb56_2 b0 b1 b2 b3 b4 b5 b6 x18 x19 x29 x21 x30 x23 x24) w → I1 [x21, x23] w) ∧ ∀ x35 x36 w37, I1 [x35, x36] w37 →
 Ask (rSel (aggArr x35) 0 1 false) fun x38 =>
 Ask (rBin X.P .and 22 false true x38 (U 1)) fun x39 =>
 Ask (rBin X.P .eql 22 false true x39 (U 0)) fun x40 =>
 (∃ t, x40 = .bool t) ∧ (x40 = .bool true →
 AskF X 113 [x35] fun x41 =>
 Ask (rAgg 4 x41) fun x42 =>
 AskF X 113 [x36] fun x43 =>
 Ask (rAgg 4 x43) fun x44 =>
 Again X w37 [b5, b3] [] fun w => I1 [x42, x44] w ∧ μ1 [x42, x44] w < μ1 [x35, x36] w37) ∧ (x40 = .bool false →
 AskF X 114 [x29, x35] fun x41 =>
 (∃ t, x41 = .bool t) ∧ (x41 = .bool true →
 AskF X 115 [x35, x29] fun x42 =>
 Ask (rExt X.P x42 0) fun x43 =>
 Ask (rExt X.P x42 1) fun _ =>
 Ask (rAgg 4 x43) fun x45 =>
 AskF X 58 [x36, x30] fun x46 =>
 Ask (rAgg 4 x46) fun x47 =>
 Again X w37 [b5, b3] [] fun w => I0 [x18, x19, x29, x45, x30, x47, x24] w ∧ μ0 [x18, x19, x29, x45, x30, x47, x24] w < μ0 [x18, x19, x20, x21, x22, x23, x24] w25) ∧ (x41 = .bool false →
 AskF X 115 [x29, x35] fun x42 =>
 Ask (rExt X.P x42 0) fun x43 =>
 Ask (rExt X.P x42 1) fun _ =>
 Ask (rAgg 4 x43) fun x45 =>
 AskF X 58 [x30, x36] fun x46 =>
 Ask (rAgg 4 x46) fun x47 =>
 Again X w37 [b4, b2] [] fun w => I0 [x18, x19, x45, x35, x47, x36, x24] w ∧ μ0 [x18, x19, x45, x35, x47, x36, x24] w < μ0 [x18, x19, x20, x21, x22, x23, x24] w25)))) ∧ (x28 = .bool false →
 Ask (rBin X.P .eql 49 false false x20 x24) fun x29 =>
 (∃ t, x29 = .bool t) ∧ (x29 = .bool true →
 Ask (rAgg 4 x22) fun x30 =>
 Ret X w25 [b1] [] x30) ∧ (x29 = .bool false →
 Ask (rAgg 4 x23) fun x30 =>
 Ret X w25 [b1] [] x30)))) := by kernel_rfl
def cRInv : Contract := fnP enc1 (· < lN) (fun n v => v = S (finv (rF n)).val)
def Tri : Table := ((((((T0.add 54 cRIsZ).add 112 cRl).add 57 cRInt).add 113 cHalf).add 114 cRbelow).add 115 cRminus).add 58 cRSub
theorem keepTri : AllKeep Tryz.prog GT Tri := ((((((keepT0.add keepsRIsZ).add keepsRl).add keepsRInt).add keepsHalf).add keepsRbelow).add keepsRminus).add keepsRSub
theorem keepsRInv : Keeps1 Tryz.prog GT 56 cRInv := by
  have leW : ∀ {n : Nat}, n ≤ lN → n < W256 := fun h => Nat.lt_of_le_of_lt h lN_lt
  have ev : ∀ {n : Nat}, n ≤ lN → lb n 0 % 2 ^ 1 = n % 2 := fun h => by
    have := limbs_sum _ (leW h)
    simp only [B64] at this; omega
  refine keepsP (T := Tri) (A := ann56) (fun a b ha hb => inj1 a b (l_W ha) (l_W hb)) hMix keepTri hGT (calls_of (by kernel_rfl)) (callsW_of (by kernel_rfl)) fun a w0 ha _ => ⟨[.x (.v 0)], [], [], 2, env0 [S a] w0, fun b => b, 0, rfl, rfl, fun X hX => mem_none hX rfl, fun X hP hS hw hX hR => ?_⟩
  subst hw
  rw [vc56 X]
  rw [ask_aggS]; intro _ _; rw [ask_zero4]; intro _ _
  refine call_PE hS (T := Tri) (f := 54) rfl a (l_W ha) ?_
  refine a_ifD (fun h0 => ?_) fun h0 => ?_
  · rw [ask_aggS]
    refine hR _ _ _ _ (congrArg S ?_)
    rw [h0, rF_zero, finv_zero]; rfl
  rw [ask_zero4]; intro _ _
  rw [ask_aggS]
  refine call_PE hS (T := Tri) (f := 112) rfl () trivial ?_
  rw [ask_zero4]; intro _ _
  rw [ask_aggS]
  refine call_PE hS (T := Tri) (f := 57) rfl 1 (by decide) ?_
  rw [ask_zero4]; intro _ _
  rw [ask_aggS, ask_zero4]; intro _ _
  rw [ask_zero4]
  refine call_PE hS (T := Tri) (f := 57) rfl 1 (by decide) ?_
  rw [ask_zero4]; intro _ _
  rw [ask_aggS]
  refine ⟨fun l w => ∃ u v x y, l = [S a, S 0, S u, S v, S x, S y, S 1] ∧ Gc (rF a) u v x y ∧ Kn X w, fun l _ => match l with | [_, _, u, v, _, _, _] => numS u + numS v | _ => 0, fun w hw => ⟨_, _, _, _, rfl, Gc.zero ha h0, hw.kn⟩, ?_⟩
  rintro _ _ _ _ _ _ _ w ⟨u, v, x, y, hl, g, hkn⟩
  simp only [List.cons.injEq, and_true] at hl
  obtain ⟨rfl, rfl, rfl, rfl, rfl, rfl, rfl⟩ := hl
  have fin : ∀ ow : List Nat, (u = 1 ∨ v = 1) → ((∃ t, Value.bool (decide (u = 1)) = .bool t) ∧ (Value.bool (decide (u = 1)) = .bool true → Ask (rAgg 4 (S x)) fun x30 => Ret X w ow [] x30) ∧ (Value.bool (decide (u = 1)) = .bool false → Ask (rAgg 4 (S y)) fun x30 => Ret X w ow [] x30)) := fun ow h => by
    refine a_ifD (fun h1 => ?_) fun h1 => ?_
    · rw [ask_aggS]
      exact hR _ _ _ _ (congrArg S (g.end h1))
    · rw [ask_aggS]
      exact hR _ _ _ _ (congrArg S (g.symm.end (h.resolve_left h1)))
  have one : (1 : Nat) < W256 := by decide
  rw [ask_neqS (hP ▸ a4R) (leW g.ul) one]
  by_cases hu : u = 1
  · rw [decide_eq_true hu, Bool.not_true]
    refine a_G_off (condsV1_not (by decide)) fun _ => ?_
    rw [ask_pickF]
    refine a_if (fun h => by cases h) fun _ => ?_
    rw [ask_eqlS (hP ▸ a4R) (leW g.ul) one]
    exact fin _ (.inl hu)
  rw [decide_eq_false hu, Bool.not_false]
  refine a_G_on condsV1 ?_
  rw [ask_neqS (hP ▸ a4R) (leW g.vl) one, ask_pickT]
  refine a_ifN (fun hv => ?_) (fun hv => by
    rw [ask_eqlS (hP ▸ a4R) (leW g.ul) one]
    exact fin _ (.inr hv))
  refine ⟨fun l w => ∃ u' x', l = [S u', S x'] ∧ Gc (rF a) u' v x' y ∧ u' ≤ u ∧ (u % 2 = 1 → u' = u) ∧ Kn X w, fun l _ => match l with | [u, _] => numS u | _ => 0, fun w hw => ⟨u, x, rfl, g, Nat.le_refl _, fun _ => rfl, hw.kn⟩, ?_⟩
  rintro _ _ w1 ⟨u1, x1, hl, g1, hle1, ho1, hkn1⟩
  simp only [List.cons.injEq, and_true] at hl
  obtain ⟨rfl, rfl⟩ := hl
  rw [ask_selS0, ask_umask (k := 1) (lb_lt _ _) rfl (by decide), ask_ueql, ev g1.ul]
  refine a_ifD (fun he => ?_) fun he => ?_
  · refine call_PE hS (T := Tri) (f := 113) rfl u1 g1.ul ?_
    rw [ask_aggS]
    refine call_PE hS (T := Tri) (f := 113) rfl x1 (Nat.le_of_lt g1.xl) ?_
    rw [ask_aggS]
    have eh : halfN u1 = u1 / 2 := by unfold halfN; rw [if_pos he]
    rw [eh]
    have hu1 := g1.up
    intro w2 hw2
    refine ⟨⟨u1 / 2, halfN x1, rfl, g1.halfU he, by omega, fun ho => by have := ho1 ho; omega, hw2.kn⟩, ?_⟩
    show numS (S (u1 / 2)) < numS (S u1)
    rw [numS_S (leW (g1.halfU he).ul), numS_S (leW g1.ul)]; omega
  refine ⟨fun l w => ∃ v' y', l = [S v', S y'] ∧ Gc (rF a) u1 v' x1 y' ∧ v' ≤ v ∧ (v % 2 = 1 → v' = v) ∧ Kn X w, fun l _ => match l with | [v, _] => numS v | _ => 0, fun w hw => ⟨v, y, rfl, g1, Nat.le_refl _, fun _ => rfl, hw.kn⟩, ?_⟩
  rintro _ _ w2 ⟨v2, y2, hl, g2, hle2, ho2, hkn2⟩
  simp only [List.cons.injEq, and_true] at hl
  obtain ⟨rfl, rfl⟩ := hl
  rw [ask_selS0, ask_umask (k := 1) (lb_lt _ _) rfl (by decide), ask_ueql, ev g2.vl]
  refine a_ifD (fun he2 => ?_) fun he2 => ?_
  · refine call_PE hS (T := Tri) (f := 113) rfl v2 g2.vl ?_
    rw [ask_aggS]
    refine call_PE hS (T := Tri) (f := 113) rfl y2 (Nat.le_of_lt g2.yl) ?_
    rw [ask_aggS]
    have eh : halfN v2 = v2 / 2 := by unfold halfN; rw [if_pos he2]
    rw [eh]
    have hv2 := g2.vp
    intro w3 hw3
    refine ⟨⟨v2 / 2, halfN y2, rfl, g2.halfV he2, by omega, fun ho => by have := ho2 ho; omega, hw3.kn⟩, ?_⟩
    show numS (S (v2 / 2)) < numS (S v2)
    rw [numS_S (leW (g2.halfV he2).vl), numS_S (leW g2.vl)]; omega
  have odd : u % 2 = 1 ∨ v % 2 = 1 := by
    rcases Nat.mod_two_eq_zero_or_one u with h1 | h1
    · rcases Nat.mod_two_eq_zero_or_one v with h2 | h2
      · have h3 : 2 ∣ Nat.gcd u v := Nat.dvd_gcd ⟨u / 2, by omega⟩ ⟨v / 2, by omega⟩
        rw [g.co] at h3
        have := Nat.le_of_dvd (by decide) h3
        omega
      · exact .inr h2
    · exact .inl h1
  have hne : u1 ≠ v2 := g2.ne (odd.imp (fun h => by rw [ho1 h]; exact hu) fun h => by rw [ho2 h]; exact hv)
  have hup := g2.up
  have hvp := g2.vp
  refine call_PE hS (T := Tri) (f := 114) rfl (u1, v2) ⟨leW g2.ul, leW g2.vl⟩ ?_
  dsimp only
  have sub : ∀ {p q : Nat}, q ≤ p → p ≤ lN → (p + W256 - q) % W256 = p - q := fun h1 h2 => by
    have := leW h2
    rw [show ∀ p q : Nat, q ≤ p → p + W256 - q = (p - q) + W256 from fun p q h => by omega, Nat.add_mod_right, Nat.mod_eq_of_lt (by omega)]
    exact h1
  refine a_ifD (fun hlt => ?_) fun hge => ?_
  · refine call_PE hS (T := Tri) (f := 115) rfl (v2, u1) ⟨leW g2.vl, leW g2.ul⟩ ?_
    dsimp only
    rw [ask_ext0, ask_ext1, ask_aggS, sub (Nat.le_of_lt hlt) g2.vl]
    refine call_PE hS (T := Tri) (f := 58) rfl (y2, x1) ⟨g2.yl, g2.xl⟩ ?_
    rw [ask_aggS]
    have g3 := g2.subV hlt
    intro w3 hw3
    refine ⟨⟨_, _, _, _, rfl, g3, hw3.kn⟩, ?_⟩
    show numS (S u1) + numS (S (v2 - u1)) < numS (S u) + numS (S v)
    rw [numS_S (leW g3.ul), numS_S (leW g3.vl), numS_S (leW g.ul), numS_S (leW g.vl)]; omega
  · have hlt : v2 < u1 := by omega
    refine call_PE hS (T := Tri) (f := 115) rfl (u1, v2) ⟨leW g2.ul, leW g2.vl⟩ ?_
    dsimp only
    rw [ask_ext0, ask_ext1, ask_aggS, sub (Nat.le_of_lt hlt) g2.ul]
    refine call_PE hS (T := Tri) (f := 58) rfl (x1, y2) ⟨g2.xl, g2.yl⟩ ?_
    rw [ask_aggS]
    have g3 := g2.subU hlt
    intro w3 hw3
    refine ⟨⟨_, _, _, _, rfl, g3, hw3.kn⟩, ?_⟩
    show numS (S (u1 - v2)) + numS (S v2) < numS (S u) + numS (S v)
    rw [numS_S (leW g3.ul), numS_S (leW g3.vl), numS_S (leW g.ul), numS_S (leW g.vl)]; omega
/-! ### powers -/
def ann129 : Ann := ⟨[(3, ([6], [2]))], [57, 59], 70, [], [2, 4, 5], none, [], []⟩
def kb129_0 (b0 b1 b2 : Nat) (x3 x4 x7 : Value) : List KB := [⟨b0, true, 49, (aggArr x3)⟩, ⟨b1, true, 49, (aggArr x4)⟩, ⟨b2, true, 49, (aggArr x7)⟩]
theorem vc129 (X : Ctx) (β : Nat → Nat) (x0 x1 : Value) : (run Tryz.prog ann129 129 [.x (.v 0), .x (.v 1)] [] [] 3).den X (env0 [x0, x1] X.w0) 3 β 0 (fun _ _ _ => False) = (
 Ask (rAgg 4 x0) fun x3 =>
 AskNew X.w0 fun b0 =>
 Ask (rAgg 4 (.agg #[(U 0), (U 0), (U 0), (U 0)])) fun x4 =>
 AskNew X.w0 fun b1 =>
 AskF X 57 [(U 1)] fun x5 =>
 Ask (rAgg 4 (.agg #[(U 0), (U 0), (U 0), (U 0)])) fun _ =>
 AskNew X.w0 fun b2 =>
 Ask (rAgg 4 x5) fun x7 =>
 ∃ (I0 : List Value → World → Prop) (μ0 : List Value → World → Nat), (∀ w, KnownV X X.w0 [b2] (kb129_0 b0 b1 b2 x3 x4 x7) w → I0 [(J 63), x7] w) ∧ ∀ x8 x9 w10, I0 [x8, x9] w10 →
 Ask (rBin X.P .geq 3 false true x8 (J 0)) fun x11 =>
 (∃ t, x11 = .bool t) ∧ (x11 = .bool true →
 AskF X 59 [x9, x9] fun x12 =>
 Ask (rAgg 4 x12) fun x13 =>
 Ask (rBin X.P .shr 22 false false x1 x8) fun x14 =>
 Ask (rBin X.P .and 22 false true x14 (U 1)) fun x15 =>
 Ask (rBin X.P .eql 22 false true x15 (U 1)) fun x16 =>
 (∃ t, x16 = .bool t) ∧ (x16 = .bool true →
 AskF X 59 [x13, x3] fun x17 =>
 Ask (rAgg 4 x17) fun x18 =>
 Ask (rBin X.P .sub 3 false true x8 (J 1)) fun x19 =>
 Again X w10 [b2, b2] [] fun w => I0 [x19, x18] w ∧ μ0 [x19, x18] w < μ0 [x8, x9] w10) ∧ (x16 = .bool false →
 Ask (rBin X.P .sub 3 false true x8 (J 1)) fun x17 =>
 Again X w10 [b2] [] fun w => I0 [x17, x13] w ∧ μ0 [x17, x13] w < μ0 [x8, x9] w10)) ∧ (x11 = .bool false →
 Ask (rAgg 4 x9) fun x12 =>
 Ret X w10 [b1] [] x12)) := by kernel_rfl
def encSU' (p : Nat × Nat) : List Value := [S p.1, U p.2]
def cRPow : Contract := fnP encSU' (fun p => p.1 < W256 ∧ p.2 < B64) (fun p v => v = S (fp (rF p.1) p.2).val)
def Trp : Table := (T0.add 57 cRInt).add 59 cMulS
theorem keepTrp : AllKeep Tryz.prog GT Trp := (keepT0.add keepsRInt).add keepsRMul
theorem keepsRPow : Keeps1 Tryz.prog GT 129 cRPow := by
  refine keepsP (T := Trp) (A := ann129) (fun p q hp hq h => by
    simp only [encSU', List.cons.injEq, and_true] at h
    exact Prod.ext (S_inj hp.1 hq.1 h.1) (U_inj' h.2)) hMix keepTrp hGT (calls_of (by kernel_rfl)) (callsW_of (by kernel_rfl)) fun ⟨a, e⟩ w0 ⟨ha, he⟩ _ => ⟨[.x (.v 0), .x (.v 1)], [], [], 3, env0 [S a, U e] w0, fun b => b, 0, rfl, rfl, fun X hX => mem_none hX rfl, fun X hP hS hw hX hR => ?_⟩
  subst hw; dsimp only at ha he hR
  rw [vc129 X]
  rw [ask_aggS]; intro _ _; rw [ask_zero4]; intro _ _
  refine call_PE hS (T := Trp) (f := 57) rfl 1 (by decide) ?_
  rw [ask_zero4]; intro _ _
  rw [ask_aggS]
  refine ⟨fun l w => ∃ k : Nat, l = [.int .i64 ((k : Int) - 1), S (fp (rF a) (e / 2 ^ k)).val] ∧ k ≤ 64 ∧ Kn X w, fun l _ => match l with | [.int _ i, _] => (i + 1).toNat | _ => 0, fun w hw => ⟨64, ?_, Nat.le_refl _, hw.kn⟩, ?_⟩
  · rw [Nat.div_eq_of_lt (by simp only [B64] at he; omega), fp_zero]; rfl
  rintro _ _ w ⟨k, hl, hk, hkn⟩
  simp only [List.cons.injEq, and_true] at hl
  obtain ⟨rfl, rfl⟩ := hl
  rw [ask_geq]
  refine a_ifD (fun hlt => ?_) fun hge => ?_
  · obtain ⟨j, rfl⟩ : ∃ j, k = j + 1 := ⟨k - 1, by simp at hlt; omega⟩
    have e1 : ((j + 1 : Nat) : Int) - 1 = (j : Int) := by omega
    rw [e1]
    have hstep := bit_step e j
    refine call_PE hS (T := Trp) (f := 59) rfl (_, _) ⟨val_lt (fp (rF a) (e / 2 ^ (j + 1))), val_lt (fp (rF a) (e / 2 ^ (j + 1)))⟩ ?_
    dsimp only
    rw [ask_aggS, val_mulF, rF_val, ← fp_add, ← Nat.two_mul]
    rw [ask_ushr (by omega), ask_umask (k := 1) (Nat.lt_of_le_of_lt (Nat.div_le_self _ _) he) rfl (by decide), ask_ueql]
    refine a_ifD (fun hb => ?_) fun hb => ?_
    · refine call_PE hS (T := Trp) (f := 59) rfl (_, a) ⟨val_lt _, ha⟩ ?_
      dsimp only
      rw [ask_aggS, val_mulF, rF_val, ← fp_succ, ask_sub, wrap_i64 (by omega) (by omega)]
      intro w2 hw2
      refine ⟨⟨j, ?_, by omega, hw2.kn⟩, by simp <;> omega⟩
      rw [show e / 2 ^ j = 2 * (e / 2 ^ (j + 1)) + 1 by omega]
      rfl
    · rw [ask_sub, wrap_i64 (by omega) (by omega)]
      intro w2 hw2
      refine ⟨⟨j, ?_, by omega, hw2.kn⟩, by simp <;> omega⟩
      rw [show e / 2 ^ j = 2 * (e / 2 ^ (j + 1)) by omega]
      rfl
  · obtain rfl : k = 0 := by simp at hge; omega
    rw [ask_aggS, Nat.pow_zero, Nat.div_one]
    exact hR _ _ _ _ rfl
#print axioms keepsRPow
end Go.Vc
