/-
  Seat D: scalar.Scalar.Least keeps its contract: the least limbs of the number modulo l.
-/
import Derived.Test.YtoakfcihcmmihaaDoorDLow
import Derived.Test.YtoakfcihcmmihaaDoorDMul
namespace Go.Vc
open Go Go.Proofs Go.RowKit

def ann35 : Ann := ⟨[], [70, 71, 72, 73, 35, 68], 70, [], [], none, []⟩
theorem vc35 (X : Ctx) (β : Nat → Nat) (x0 x1 x2 x3 x4 : Value) : (run Tryd.prog ann35 35 [.l [.v 0, .v 1, .v 2, .v 3]] [some ⟨.wh 4, 16, 130, false⟩] [(0, 0)] 6).den X (env0 [x0, x1, x2, x3, x4] X.w0) 6 β 1 (fun _ _ _ => False) = (
  AskNew X.w0 fun b1 =>
  AskNew X.w0 fun b2 =>
  Ask (rBin X.P .lss 22 false true x3 (U 1152921504606846976)) fun x6 =>
  (∃ t, x6 = .bool t) ∧ (x6 = .bool true →
    Ask (rPlain x0) fun x7 =>
    Ask (rPlain x1) fun x8 =>
    Ask (rPlain x2) fun x9 =>
    Ask (rPlain x3) fun x10 =>
    Ret X X.w0 [b2] [] (.agg #[x7, x8, x9, x10])) ∧ (x6 = .bool false →
    Ask (rBin X.P .shr 22 false true x3 (U 60)) fun x7 =>
    Ask (rBin X.P .and 22 false true x3 (U 1152921504606846975)) fun x8 =>
    Ask (rPlain x8) fun x9 =>
    AskNew X.w0 fun b3 =>
    Ask (rSel (aggArr x4) 0 1 false) fun x10 =>
    AskF X 68 [x7, x10] fun x11 =>
    Ask (rExt X.P x11 0) fun x12 =>
    Ask (rExt X.P x11 1) fun x13 =>
    Ask (rPlain x13) fun x14 =>
    Ask (rSel (aggArr x4) 1 1 false) fun x15 =>
    AskF X 68 [x7, x15] fun x16 =>
    Ask (rExt X.P x16 0) fun x17 =>
    Ask (rExt X.P x16 1) fun x18 =>
    Ask (rGen X.P (Go.Op.call { callee := Go.Callee.value (Go.Operand.func 69), args := #[Go.Operand.tmp 44, Go.Operand.tmp 45, Go.Operand.const (Go.Value.int Go.IntKind.u64 0)], argTypes := #[22, 22, 22] }) 128 [(44, x18), (45, x12)]) fun x19 =>
    Ask (rExt X.P x19 0) fun x20 =>
    Ask (rExt X.P x19 1) fun x21 =>
    Ask (rPlain x20) fun x22 =>
    Ask (rBin X.P .add 22 false false x17 x21) fun x23 =>
    Ask (rPlain x23) fun x24 =>
    AskF X 70 [(.agg #[x0, x1, x2, x9]), (.agg #[x14, x22, x24, (U 0)])] fun x25 =>
    Ask (rExt X.P x25 0) fun x26 =>
    Ask (rExt X.P x25 1) fun x27 =>
    AskNew X.w0 fun b4 =>
    Ask (rAgg 4 x26) fun x28 =>
    Ask (rSel (aggArr x28) 0 1 false) fun x29 =>
    Ask (rSel (aggArr x28) 1 1 false) fun x30 =>
    Ask (rSel (aggArr x28) 2 1 false) fun x31 =>
    Ask (rSel (aggArr x28) 3 1 false) fun x32 =>
    Ask (rSel (aggArr x4) 0 4 true) fun x33 =>
    AskF X 71 [(.agg #[x29, x30, x31, x32]), x33] fun x34 =>
    Ask (rExt X.P x34 0) fun x35 =>
    Ask (rExt X.P x34 1) fun _ =>
    AskNew X.w0 fun b5 =>
    Ask (rAgg 4 x35) fun x37 =>
    Ask (rSel (aggArr x37) 0 1 false) fun x38 =>
    Ask (rSel (aggArr x37) 1 1 false) fun x39 =>
    Ask (rSel (aggArr x37) 2 1 false) fun x40 =>
    Ask (rSel (aggArr x37) 3 1 false) fun x41 =>
    Ask (rUn X.P .neg x27) fun x42 =>
    AskF X 73 [x42, (.agg #[x38, x39, x40, x41]), (.agg #[x29, x30, x31, x32])] fun x43 =>
    AskF X 72 [x43] fun x44 =>
    Ask (rAgg 4 x44) fun x45 =>
    Ask (rSel (aggArr x45) 0 1 false) fun x46 =>
    Ask (rSel (aggArr x45) 1 1 false) fun x47 =>
    Ask (rSel (aggArr x45) 2 1 false) fun x48 =>
    Ask (rSel (aggArr x45) 3 1 false) fun x49 =>
    Ret X X.w0 [b2, b5, b4, b3, b3, b3, b1] [] (.agg #[x46, x47, x48, x49]))) := by kernel_rfl

def cLeast : Contract where
  pre args := ∃ a0 a1 a2 a3, args = [L4 a0 a1 a2 a3] ∧ lim a0 a1 a2 a3
  post args v := ∀ a0 a1 a2 a3, args = [L4 a0 a1 a2 a3] → ∃ d0 d1 d2 d3, v = L4 d0 d1 d2 d3 ∧ lim d0 d1 d2 d3 ∧ N4 d0 d1 d2 d3 = N4 a0 a1 a2 a3 % lN

def T2 : Table := Table.add (Table.add T1 68 cMul64) 72 cLower
theorem keepT2 : AllKeep Tryd.prog GT T2 := (keepT1.add keeps68.weaken).add keeps72

theorem ask_tab00 {K : Value → Prop} : Ask (rSel (aggArr (.agg tabArr)) 0 1 false) K = K (U 6346243789798364141) := ask_sel1 rfl
theorem ask_tab01 {K : Value → Prop} : Ask (rSel (aggArr (.agg tabArr)) 1 1 false) K = K (U 1503914060200516822) := ask_sel1 rfl

/-- q (l - 2^252), limb by limb. -/
theorem qc_law {q : Nat} (hq : q < 16) : (q * 1503914060200516822 % B64 + q * 6346243789798364141 / B64) / B64 + q * 1503914060200516822 / B64 < B64 ∧
    q * 6346243789798364141 % B64 + B64 * ((q * 1503914060200516822 % B64 + q * 6346243789798364141 / B64) % B64) + B64 ^ 2 * (q * 1503914060200516822 / B64 + (q * 1503914060200516822 % B64 + q * 6346243789798364141 / B64) / B64) = q * (6346243789798364141 + B64 * 1503914060200516822) := by
  simp only [B64]
  omega

theorem qc_names {q : Nat} (hq : q < 16) : ∃ k0 k1 k2 hi lo2, k0 < B64 ∧ k1 < B64 ∧ k2 < B64 ∧ k0 + B64 * k1 + B64 ^ 2 * k2 = q * (6346243789798364141 + B64 * 1503914060200516822) ∧
    q * 6346243789798364141 / B64 = hi ∧ q * 6346243789798364141 % B64 = k0 ∧ q * 1503914060200516822 % B64 = lo2 ∧ (lo2 + hi) % B64 = k1 ∧ (q * 1503914060200516822 / B64 + (lo2 + hi) / B64) % B64 = k2 := by
  simp only [B64]
  refine ⟨_, _, _, _, _, ?_, ?_, ?_, ?_, rfl, rfl, rfl, rfl, rfl⟩ <;> omega

theorem least_lin {ND NE NK NL NA c' M c L B4 qM qL : Nat} (hN : ND + NK = NL + B4) (hM : NE + c' * B4 = ND + L) (hA : NL + qM = NA) (hL : L = M + c) (hqL : qL = qM + NK)
    (hD : ND < B4) (hE : NE < B4) (hc : c' ≤ 1) (hK : NK ≤ 15 * c) (hcM : 15 * c < M) : NE + qL = NA + L ∧ NE < 2 * L := by
  have h : c' = 0 ∨ c' = 1 := by omega
  rcases h with h | h
  · rw [h] at hM
    constructor <;> omega
  · rw [h] at hM
    constructor <;> omega

theorem N4_lt {a b c d : Nat} (h : lim a b c d) : N4 a b c d < B64 ^ 4 := by
  obtain ⟨h0, h1, h2, h3⟩ := h
  simp only [N4, B64] at *
  omega

theorem least_law {k0 k1 k2 q a0 a1 a2 a3 low d0 d1 d2 d3 e0 e1 e2 e3 c' : Nat} (hqc : k0 + B64 * k1 + B64 ^ 2 * k2 = q * (6346243789798364141 + B64 * 1503914060200516822)) (hsplit : 2 ^ 60 * q + low = a3) (hq : q < 16)
    (hd : lim d0 d1 d2 d3) (he : lim e0 e1 e2 e3) (hN : N4 d0 d1 d2 d3 + N4 k0 k1 k2 0 = N4 a0 a1 a2 low + 1 * B64 ^ 4)
    (hM : N4 e0 e1 e2 e3 + c' * B64 ^ 4 = N4 d0 d1 d2 d3 + N4 6346243789798364141 1503914060200516822 0 1152921504606846976) (hc' : c' ≤ 1) :
    N4 e0 e1 e2 e3 + q * lN = N4 a0 a1 a2 a3 + lN ∧ N4 e0 e1 e2 e3 < 2 * lN := by
  have hNK : N4 k0 k1 k2 0 = q * (6346243789798364141 + B64 * 1503914060200516822) := by rw [← hqc]; simp only [N4, Nat.mul_zero, Nat.add_zero]
  refine least_lin (ND := N4 d0 d1 d2 d3) (NK := N4 k0 k1 k2 0) (NL := N4 a0 a1 a2 low) (NA := N4 a0 a1 a2 a3) (L := lN) (M := B64 ^ 3 * 1152921504606846976) (c := 6346243789798364141 + B64 * 1503914060200516822) (B4 := B64 ^ 4) (qM := q * (B64 ^ 3 * 1152921504606846976)) (by rw [Nat.one_mul] at hN; exact hN) hM ?_ rfl ?_ (N4_lt hd) (N4_lt he) hc' ?_ (by decide)
  · rw [← hsplit]; simp only [N4]; grind
  · rw [hNK]; unfold lN; simp only [N4]; grind
  · rw [hNK]; exact Nat.mul_le_mul_right _ (by omega)

theorem callsA : ∀ f ∈ ann35.calls, ∀ (args : Array Value) (w : World), (callFunc f args).run Tryd.prog w = .ok (.enter f args) w := fun f hf args w => by
  simp only [ann35, List.mem_cons, List.not_mem_nil, or_false] at hf
  rcases hf with rfl | rfl | rfl | rfl | rfl | rfl <;> kernel_rfl

theorem keeps35 : Keeps1 Tryd.prog GT 35 cLeast := by
  refine keeps_pure (fun _ _ h => h) fun args w0 ⟨a0, a1, a2, a3, ha, hlim⟩ hGT => ?_
  subst ha
  refine calls_pure (T := T2) (nb := 1) (A := ann35) (args := [.l [.v 0, .v 1, .v 2, .v 3]]) (blocks := [some ⟨.wh 4, 16, 130, false⟩]) (gl := [(0, 0)]) (ne := 6) (env := env0 ([U a0, U a1, U a2, U a3] ++ [.agg tabArr]) w0) (β := fun b => b) _ rfl rfl (by kernel_rfl) keepT2 (fun w h1 h2 => hGT.stays h1 h2)
    callsA (fun f hf => by cases hf) (fun X hX => memT (k := 4) (xs := [U a0, U a1, U a2, U a3]) hX hGT rfl) fun X hP hS hw hR => ?_
  subst hw
  simp only [List.cons_append, List.nil_append]
  rw [vc35 X, hP]; simp only [AskF, hS]
  intro _ _ _ _
  obtain ⟨p0, p1, p2, p3⟩ := hlim
  have hB : B64 = 18446744073709551616 := rfl
  rw [ask_ulss]
  refine ⟨⟨_, rfl⟩, fun hlt => ?_, fun hge => ?_⟩
  · -- below 2^252
    simp only [Value.bool.injEq, decide_eq_true_eq] at hlt
    rw [ask_uplain, ask_uplain, ask_uplain, ask_uplain]
    refine hR _ _ _ _ fun y0 y1 y2 y3 he => ?_
    simp only [List.cons.injEq, and_true] at he
    obtain ⟨rfl, rfl, rfl, rfl⟩ := L4_inj he
    refine ⟨a0, a1, a2, a3, rfl, ⟨p0, p1, p2, p3⟩, (Nat.mod_eq_of_lt ?_).symm⟩
    unfold lN
    simp only [N4, B64] at *
    omega
  · simp only [Value.bool.injEq, decide_eq_false_iff_not] at hge
    have hq : a3 / 2 ^ 60 < 16 := by simp only [B64] at p3; omega
    have hlow : a3 % 2 ^ 60 < B64 := by simp only [B64]; omega
    have hmask : ∀ K : Value → Prop, Ask (rBin Tryd.prog .and 22 false true (U a3) (U 1152921504606846975)) K = K (U (a3 % 2 ^ 60)) := fun K => by
      have h := ask_uand (P := Tryd.prog) (K := K) (t := 22) (cx := false) (cy := true) (a := a3) (b := 1152921504606846975) p3 (by decide)
      have e : a3 &&& 1152921504606846975 = a3 % 2 ^ 60 := Nat.and_two_pow_sub_one_eq_mod a3 60
      rw [e] at h
      exact h
    have hshr : ∀ K : Value → Prop, Ask (rBin Tryd.prog .shr 22 false true (U a3) (U 60)) K = K (U (a3 / 2 ^ 60)) := fun K =>
      ask_ushr (P := Tryd.prog) (K := K) (t := 22) (cx := false) (cy := true) (a := a3) (b := 60) (kd := .u64) (by decide)
    rw [hshr, hmask, ask_uplain]
    intro _ _
    rw [ask_tab00]
    have hsplit := Nat.div_add_mod a3 (2 ^ 60)
    generalize a3 / 2 ^ 60 = q at hq hsplit ⊢
    obtain ⟨k0, k1, k2, hi, lo2, hk0l, hk1l, hk2l, hqc, e1, e2, e3, e4, e5⟩ := qc_names hq
    refine askC_intro ⟨q, _, rfl, by omega, by decide⟩ fun v hv => ?_
    obtain rfl := hv q _ rfl
    rw [ask_ext0, ask_ext1, ask_uplain, ask_tab01, e1, e2]
    refine askC_intro ⟨q, _, rfl, by omega, by decide⟩ fun v hv => ?_
    obtain rfl := hv q _ rfl
    rw [ask_ext0, ask_ext1, e3]
    rw [ask_add64 (x := lo2) (y := hi) (c := 0) add64 (by simp [argsFn] <;> rfl) (by decide), ask_ext0, ask_ext1, ask_uplain, Nat.add_zero, e4]
    rw [ask_uadd, ask_uplain, e5]
    have hlow60 : a3 % 2 ^ 60 < 2 ^ 60 := Nat.mod_lt _ (by decide)
    generalize hlo : a3 % 2 ^ 60 = low at hlow hsplit hlow60 ⊢
    refine askC_intro ⟨a0, a1, a2, low, k0, k1, k2, 0, rfl, ⟨p0, p1, p2, hlow⟩, ⟨hk0l, hk1l, hk2l, by decide⟩⟩ fun v hv => ?_
    obtain ⟨d0, d1, d2, d3, c, rfl, hd, hc, hN⟩ := hv a0 a1 a2 low k0 k1 k2 0 rfl
    rw [ask_ext0, ask_ext1]
    intro _ _
    rw [ask_L4, ask_L40, ask_L41, ask_L42, ask_L43, ask_tab0]
    refine askC_intro ⟨d0, d1, d2, d3, _, _, _, _, rfl, hd, by decide, by decide, by decide, by decide⟩ fun v hv => ?_
    obtain ⟨e0, e1, e2, e3, c', rfl, he, hc', hM⟩ := hv d0 d1 d2 d3 _ _ _ _ rfl
    rw [ask_ext0, ask_ext1]
    intro _ _
    rw [ask_L4, ask_L40, ask_L41, ask_L42, ask_L43, ask_uneg (by omega)]
    have hmk : (B64 - c) % B64 = if c = 0 then 0 else B64 - 1 := by
      rcases Nat.le_one_iff_eq_zero_or_eq_one.1 hc with rfl | rfl <;> decide
    refine askC_intro ⟨(B64 - c) % B64, e0, e1, e2, e3, d0, d1, d2, d3, rfl, by rw [hmk]; split <;> simp, he, hd⟩ fun v hv => ?_
    have hv := hv _ e0 e1 e2 e3 d0 d1 d2 d3 rfl
    have hg : ∃ g0 g1 g2 g3, v = L4 g0 g1 g2 g3 ∧ lim g0 g1 g2 g3 ∧ (N4 g0 g1 g2 g3 + q * lN = N4 a0 a1 a2 a3 ∨ N4 g0 g1 g2 g3 + q * lN = N4 a0 a1 a2 a3 + lN) ∧ N4 g0 g1 g2 g3 < 2 * lN := by
      obtain ⟨r0, r1, r2, r3⟩ := hd
      obtain ⟨s0, s1, s2, s3⟩ := he
      rcases Nat.le_one_iff_eq_zero_or_eq_one.1 hc with rfl | rfl
      · refine ⟨d0, d1, d2, d3, by simpa using hv, ⟨r0, r1, r2, r3⟩, .inl ?_, ?_⟩
        · unfold lN
          simp only [N4, B64] at hN hqc ⊢
          omega
        · unfold lN
          simp only [N4, B64] at hN hqc p0 p1 p2 ⊢
          omega
      · have hfact := least_law hqc hsplit hq ⟨r0, r1, r2, r3⟩ ⟨s0, s1, s2, s3⟩ hN hM hc'
        exact ⟨e0, e1, e2, e3, by simpa using hv, ⟨s0, s1, s2, s3⟩, .inr hfact.1, hfact.2⟩
    obtain ⟨g0, g1, g2, g3, rfl, hgl, hgq, hg2⟩ := hg
    refine askC_intro ⟨g0, g1, g2, g3, rfl, hgl⟩ fun v hv => ?_
    obtain ⟨h0, h1, h2, h3, rfl, hhl, hH⟩ := hv g0 g1 g2 g3 rfl
    rw [ask_L4, ask_L40, ask_L41, ask_L42, ask_L43]
    refine hR _ _ _ _ fun y0 y1 y2 y3 he => ?_
    simp only [List.cons.injEq, and_true] at he
    obtain ⟨rfl, rfl, rfl, rfl⟩ := L4_inj he
    refine ⟨h0, h1, h2, h3, rfl, hhl, ?_⟩
    generalize N4 h0 h1 h2 h3 = H at hH ⊢
    generalize N4 g0 g1 g2 g3 = Gn at hH hgq hg2
    generalize N4 a0 a1 a2 a3 = An at hgq ⊢
    have hlp : 0 < lN := by decide
    generalize lN = ll at *
    have hHl : H < ll := by rw [hH]; split <;> omega
    have hHm : H % ll = Gn % ll := by
      rw [hH]
      split
      · rfl
      · rw [← Nat.mod_eq_sub_mod (by omega)]
    have hGA : Gn % ll = An % ll := by
      rcases hgq with h | h
      · rw [← h, Nat.add_mul_mod_self_right]
      · have h1 : (Gn + q * ll) % ll = (An + ll) % ll := by rw [h]
        rw [Nat.add_mul_mod_self_right, Nat.add_mod_right] at h1
        exact h1
    rw [← hGA, ← hHm, Nat.mod_eq_of_lt hHl]
#print axioms keeps35
end Go.Vc
