/-
  The document's least scalar (veilref02.words, Least): contracts by numbers.
-/
import Derived.Test.YtcnmnmhmmgjblaaGreatDoorDRef
namespace Go.Vc
open Go Go.Proofs Go.RowKit
def encU1 (n : Nat) : List Value := [U n]
def cLW : Cod (List Nat) := cL encU1 (fun n => n < 65536) 1 (fun _ => rfl) (fun _ _ _ _ h => U_inj' (by simpa [encU1] using h))
def num16 : List Nat → Nat | [] => 0 | a :: r => a + 65536 * num16 r
theorem num16_step (x w l : Nat) : (65536 * (x % l) + w) % l = (w + 65536 * x) % l := by
  rw [Nat.add_comm w, Nat.add_mod, Nat.mul_mod, Nat.mod_mod, ← Nat.mul_mod, ← Nat.add_mod]
def ann62 : Ann := ⟨[(3, ([4], [1]))], [118], 70, [], [2, 3], none, [], []⟩
def kb62_0 (b0 b1 : Nat) (x2 x3 : Value) : List KB := [⟨b0, true, 49, (aggArr x2)⟩, ⟨b1, true, 49, (aggArr x3)⟩]
theorem vc62 (X : Ctx) (β : Nat → Nat) (x0 : Value) : (run Tryz.prog ann62 62 [.x (.v 0)] [] [] 2).den X (env0 [x0] X.w0) 2 β 0 (fun _ _ _ => False) = (
 Ask (rAgg 4 (.agg #[(U 0), (U 0), (U 0), (U 0)])) fun x2 =>
 AskNew X.w0 fun b0 =>
 Ask (rAgg 4 (.agg #[(U 0), (U 0), (U 0), (U 0)])) fun x3 =>
 AskNew X.w0 fun b1 =>
 Ask (rLen X.P 25 x0) fun x4 =>
 Ask (rBin X.P .sub 3 false true x4 (J 1)) fun x5 =>
 ∃ (I0 : List Value → World → Prop) (μ0 : List Value → World → Nat), (∀ w, KnownV X X.w0 [] (kb62_0 b0 b1 x2 x3) w → I0 [x5, x3] w) ∧ ∀ x6 x7 w8, I0 [x6, x7] w8 →
 Ask (rBin X.P .geq 3 false true x6 (J 0)) fun x9 =>
 (∃ t, x9 = .bool t) ∧ (x9 = .bool true →
 Ask (rIad X.P 25 x0 x6) fun x10 =>
 Ask (rLoad X w8 [] 22 x10) fun x11 =>
 AskF X 118 [x7, x11] fun x12 =>
 Ask (rAgg 4 x12) fun x13 =>
 Ask (rBin X.P .sub 3 false true x6 (J 1)) fun x14 =>
 Again X w8 [b1] [] fun w => I0 [x14, x13] w ∧ μ0 [x14, x13] w < μ0 [x6, x7] w8) ∧ (x9 = .bool false →
 Ask (rAgg 4 x7) fun x10 =>
 Ret X w8 [b0] [] x10)) := by kernel_rfl
def cRwords : Contract := fnW (Cods.cons cLW Cods.nil) (fun _ _ => True) (fun p _ v _ => v = S (num16 p.1 % lN))
def T3r : Table := T0.add 118 cRstep
theorem keepT3r : AllKeep Tryz.prog GT T3r := keepT0.add keepsRstep
theorem tyW : ElTy Tryz.prog 25 22 1 8 (U 0) := ⟨by kernel_rfl, by kernel_rfl⟩
theorem keepsRwords : Keeps1 Tryz.prog GT 62 cRwords := by
  refine keepsW (T := T3r) (A := ann62) hMix keepT3r hGT (fun f hf => by
      simp only [ann62, List.mem_cons, List.not_mem_nil, or_false] at hf
      subst hf; intros; kernel_rfl) (fun f hf => by cases hf) fun args ⟨ws, _⟩ w0 hrd _ _ => ?_
  obtain ⟨v, r, rfl, hv, rfl⟩ := hrd
  dsimp only at hv
  refine ⟨[.x (.v 0)], [], [], 2, env0 [v] w0, fun b => b, 0, rfl, rfl, fun X hX => mem_none hX rfl, fun X hP hS hw hX hR => ?_⟩
  subst hw; dsimp only at hR
  replace hv : Ls encU1 (fun n => n < 65536) X.w0 v ws := hv
  have hok := hv.2
  replace hv := hv.1
  have hn : ws.length ≤ maxLen := by
    rcases hv with ⟨_, hn, _⟩ | ⟨_, _, _, _, hn, _⟩
    · omega
    · exact Nat.le_trans hn.1 hn.2
  have hn' : ws.length < 2 ^ 63 := by unfold maxLen at hn; omega
  rw [vc62 X]
  rw [ask_zero4]; intro _ _; rw [ask_zero4]; intro _ _
  refine a_len hP tyW hv ?_
  rw [ask_sub, wrap_i64 (by omega) (by omega)]
  refine ⟨fun l w => ∃ k : Nat, l = [.int .i64 ((k : Int) - 1), S (num16 (ws.drop k) % lN)] ∧ k ≤ ws.length ∧ Kn X w, fun l _ => match l with | [.int _ i, _] => (i + 1).toNat | _ => 0, fun w hw => ⟨ws.length, by simp [num16], Nat.le_refl _, hw.kn⟩, ?_⟩
  rintro _ _ w ⟨k, he, hk, hkn⟩
  simp only [List.cons.injEq, and_true] at he
  obtain ⟨rfl, rfl⟩ := he
  rw [ask_geq]
  refine a_ifD (fun hlt => ?_) fun hge => ?_
  · obtain ⟨j, rfl⟩ : ∃ j, k = j + 1 := ⟨k - 1, by simp at hlt; omega⟩
    have e1 : ((j + 1 : Nat) : Int) - 1 = (j : Int) := by omega
    have hj : ws[j]? = some ws[j] := List.getElem?_eq_getElem (by omega)
    rw [e1]
    have hv' := hv.stp0 (hkn.stp0 hX)
    refine a_iadN hP tyW hv' (by omega) ?_
    refine a_load_one hkn hv' (by rw [hP]; kernel_rfl) (fun _ _ => List.not_mem_nil) (c := U ws[j]) (by
      have := flat_at (enc := encU1) (s := 1) (fun _ => rfl) ws j ws[j] hj 0 (U ws[j]) rfl
      simpa using this) ?_
    refine call_PE hS (T := T3r) (f := 118) rfl (num16 (ws.drop (j + 1)) % lN, ws[j]) ⟨Nat.mod_lt _ (by decide), hok _ (List.getElem_mem _)⟩ ?_
    dsimp only
    rw [ask_aggS, ask_sub, wrap_i64 (by omega) (by omega)]
    intro w' hw'
    refine ⟨⟨j, ?_, by omega, hw'.kn⟩, by simp⟩
    rw [num16_step, List.drop_eq_getElem_cons (show j < ws.length by omega), num16]
    rfl
  · obtain rfl : k = 0 := by simp at hge; omega
    rw [ask_aggS]
    exact hR _ _ _ _ fun _ _ => rfl
def ann15 : Ann := ⟨[], [], 70, [(62, false)], [], none, [], []⟩
def kb15_0 (b0 b1 : Nat) (x0 x1 x2 x3 : Value) : List KB := [⟨b0, true, 23, #[x0, x1, x2, x3]⟩, ⟨b1, true, 49, #[(U 0), (U 0), (U 0), (U 0)]⟩]
theorem vc15 (X : Ctx) (β : Nat → Nat) (x0 x1 x2 x3 : Value) : (run Tryz.prog ann15 15 [.l [.v 0, .v 1, .v 2, .v 3]] [] [] 5).den X (env0 [x0, x1, x2, x3] X.w0) 5 β 0 (fun _ _ _ => False) = (
 AskNew X.w0 fun b0 =>
 AskNew X.w0 fun b1 =>
 Ask (rBin X.P .and 22 false true x0 (U 65535)) fun x5 =>
 Ask (rBin X.P .shr 22 false true x0 (U 16)) fun x6 =>
 Ask (rBin X.P .and 22 false true x6 (U 65535)) fun x7 =>
 Ask (rBin X.P .shr 22 false true x0 (U 32)) fun x8 =>
 Ask (rBin X.P .and 22 false true x8 (U 65535)) fun x9 =>
 Ask (rBin X.P .shr 22 false true x0 (U 48)) fun x10 =>
 AskO X X.w0 [] (kb15_0 b0 b1 x0 x1 x2 x3) false (Op.buildSlice 25 4 #[(0, Operand.tmp 13), (1, Operand.tmp 18), (2, Operand.tmp 23), (3, Operand.tmp 27)]) 25 [(13, x5), (18, x7), (23, x9), (27, x10)] fun x11 w11 =>
 AskO X w11 [] (kb15_0 b0 b1 x0 x1 x2 x3) true (appOp (.tmp 9) (.tmp 28) 25) 25 [(9, (.slice none 0 0)), (28, x11)] fun x12 w12 =>
 Ask (rBin X.P .and 22 false true x1 (U 65535)) fun x13 =>
 Ask (rBin X.P .shr 22 false true x1 (U 16)) fun x14 =>
 Ask (rBin X.P .and 22 false true x14 (U 65535)) fun x15 =>
 Ask (rBin X.P .shr 22 false true x1 (U 32)) fun x16 =>
 Ask (rBin X.P .and 22 false true x16 (U 65535)) fun x17 =>
 Ask (rBin X.P .shr 22 false true x1 (U 48)) fun x18 =>
 AskO X w12 [] (kb15_0 b0 b1 x0 x1 x2 x3) false (Op.buildSlice 25 4 #[(0, Operand.tmp 13), (1, Operand.tmp 18), (2, Operand.tmp 23), (3, Operand.tmp 27)]) 25 [(13, x13), (18, x15), (23, x17), (27, x18)] fun x19 w19 =>
 AskO X w19 [] (kb15_0 b0 b1 x0 x1 x2 x3) true (appOp (.tmp 9) (.tmp 28) 25) 25 [(9, x12), (28, x19)] fun x20 w20 =>
 Ask (rBin X.P .and 22 false true x2 (U 65535)) fun x21 =>
 Ask (rBin X.P .shr 22 false true x2 (U 16)) fun x22 =>
 Ask (rBin X.P .and 22 false true x22 (U 65535)) fun x23 =>
 Ask (rBin X.P .shr 22 false true x2 (U 32)) fun x24 =>
 Ask (rBin X.P .and 22 false true x24 (U 65535)) fun x25 =>
 Ask (rBin X.P .shr 22 false true x2 (U 48)) fun x26 =>
 AskO X w20 [] (kb15_0 b0 b1 x0 x1 x2 x3) false (Op.buildSlice 25 4 #[(0, Operand.tmp 13), (1, Operand.tmp 18), (2, Operand.tmp 23), (3, Operand.tmp 27)]) 25 [(13, x21), (18, x23), (23, x25), (27, x26)] fun x27 w27 =>
 AskO X w27 [] (kb15_0 b0 b1 x0 x1 x2 x3) true (appOp (.tmp 9) (.tmp 28) 25) 25 [(9, x20), (28, x27)] fun x28 w28 =>
 Ask (rBin X.P .and 22 false true x3 (U 65535)) fun x29 =>
 Ask (rBin X.P .shr 22 false true x3 (U 16)) fun x30 =>
 Ask (rBin X.P .and 22 false true x30 (U 65535)) fun x31 =>
 Ask (rBin X.P .shr 22 false true x3 (U 32)) fun x32 =>
 Ask (rBin X.P .and 22 false true x32 (U 65535)) fun x33 =>
 Ask (rBin X.P .shr 22 false true x3 (U 48)) fun x34 =>
 AskO X w28 [] (kb15_0 b0 b1 x0 x1 x2 x3) false (Op.buildSlice 25 4 #[(0, Operand.tmp 13), (1, Operand.tmp 18), (2, Operand.tmp 23), (3, Operand.tmp 27)]) 25 [(13, x29), (18, x31), (23, x33), (27, x34)] fun x35 w35 =>
 AskO X w35 [] (kb15_0 b0 b1 x0 x1 x2 x3) true (appOp (.tmp 9) (.tmp 28) 25) 25 [(9, x28), (28, x35)] fun x36 w36 =>
 AskW X w36 [] (kb15_0 b0 b1 x0 x1 x2 x3) false 62 [x36] fun x37 w37 =>
 Ask (rAgg 4 x37) fun x38 =>
 Ask (rSel (aggArr x38) 0 1 false) fun x39 =>
 Ask (rSel (aggArr x38) 1 1 false) fun x40 =>
 Ask (rSel (aggArr x38) 2 1 false) fun x41 =>
 Ask (rSel (aggArr x38) 3 1 false) fun x42 =>
 Ret X w37 [b1] [] (.agg #[x39, x40, x41, x42])) := by kernel_rfl
abbrev enc1 (n : Nat) : List Value := [S n]
theorem inj1 (a b : Nat) (ha : a < W256) (hb : b < W256) (h : enc1 a = enc1 b) : a = b := S_inj ha hb (by simpa [enc1] using h)
def cRleast : Contract := fnP enc1 (· < W256) (fun n v => v = S (n % lN))
def T4r : Table := T0.add 62 cRwords
theorem keepT4r : AllKeep Tryz.prog GT T4r := keepT0.add keepsRwords
theorem four16 (x : Nat) : x % 2 ^ 16 + 65536 * (x / 2 ^ 16 % 2 ^ 16) + 4294967296 * (x / 2 ^ 32 % 2 ^ 16) + 281474976710656 * (x / 2 ^ 48) = x := by omega
theorem lin16 {a0 a1 a2 a3 b0 b1 b2 b3 c0 c1 c2 c3 d0 d1 d2 d3 r0 r1 r2 r3 : Nat} (h0 : a0 + 65536 * a1 + 4294967296 * a2 + 281474976710656 * a3 = r0) (h1 : b0 + 65536 * b1 + 4294967296 * b2 + 281474976710656 * b3 = r1) (h2 : c0 + 65536 * c1 + 4294967296 * c2 + 281474976710656 * c3 = r2) (h3 : d0 + 65536 * d1 + 4294967296 * d2 + 281474976710656 * d3 = r3) :
    a0 + 65536 * (a1 + 65536 * (a2 + 65536 * (a3 + 65536 * (b0 + 65536 * (b1 + 65536 * (b2 + 65536 * (b3 + 65536 * (c0 + 65536 * (c1 + 65536 * (c2 + 65536 * (c3 + 65536 * (d0 + 65536 * (d1 + 65536 * (d2 + 65536 * (d3 + 65536 * 0))))))))))))))) = r0 + B64 * r1 + B64 ^ 2 * r2 + B64 ^ 3 * r3 := by
  subst h0; subst h1; subst h2; subst h3
  simp only [B64]
  omega
theorem num16_four (r0 r1 r2 r3 : Nat) : num16 [r0 % 2 ^ 16, r0 / 2 ^ 16 % 2 ^ 16, r0 / 2 ^ 32 % 2 ^ 16, r0 / 2 ^ 48, r1 % 2 ^ 16, r1 / 2 ^ 16 % 2 ^ 16, r1 / 2 ^ 32 % 2 ^ 16, r1 / 2 ^ 48,
    r2 % 2 ^ 16, r2 / 2 ^ 16 % 2 ^ 16, r2 / 2 ^ 32 % 2 ^ 16, r2 / 2 ^ 48, r3 % 2 ^ 16, r3 / 2 ^ 16 % 2 ^ 16, r3 / 2 ^ 32 % 2 ^ 16, r3 / 2 ^ 48] = r0 + B64 * r1 + B64 ^ 2 * r2 + B64 ^ 3 * r3 :=
  lin16 (four16 r0) (four16 r1) (four16 r2) (four16 r3)
theorem keepsRleast : Keeps1 Tryz.prog GT 15 cRleast := by
  refine keepsP (T := T4r) (A := ann15) inj1 hMix keepT4r hGT (fun f hf => by cases hf) (fun f hf => by
      simp only [ann15, List.mem_cons, List.not_mem_nil, or_false] at hf
      subst hf; intros; kernel_rfl) fun n w0 hn _ => ⟨[.l [.v 0, .v 1, .v 2, .v 3]], [], [], 5, env0 [U (lb n 0), U (lb n 1), U (lb n 2), U (lb n 3)] w0, fun b => b, 0, rfl, rfl, fun X hX => mem_none hX rfl, fun X hP hS hw hX hR => ?_⟩
  subst hw
  have hsum := limbs_sum n hn
  have g0 := lb_lt n 0; have g1 := lb_lt n 1; have g2 := lb_lt n 2; have g3 := lb_lt n 3
  rw [vc15 X]
  generalize lb n 0 = r0 at *; generalize lb n 1 = r1 at *; generalize lb n 2 = r2 at *; generalize lb n 3 = r3 at *
  have d : ∀ {x : Nat} (k : Nat), x < B64 → x / 2 ^ k < B64 := fun _ h => Nat.lt_of_le_of_lt (Nat.div_le_self _ _) h
  have one4 : ∀ a b c d : Nat, (#[U a, U b, U c, U d].all (·.oneCell')) = true := fun a b c d => by simp [U, Value.oneCell']
  intro b0 _ b1 _
  rw [ask_umask (k := 16) g0 (by decide) (by decide), ask_ushrU (by omega), ask_umask (k := 16) (d 16 g0) (by decide) (by decide), ask_ushrU (by omega), ask_umask (k := 16) (d 32 g0) (by decide) (by decide), ask_ushrU (by omega)]
  refine a_push #[U (r0 % 2 ^ 16), U (r0 / 2 ^ 16 % 2 ^ 16), U (r0 / 2 ^ 32 % 2 ^ 16), U (r0 / 2 ^ 48)] hX hP tyW rfl rfl (by decide) (by decide) (by decide) (by kernel_rfl) rfl (one4 _ _ _ _) rfl (Nat.le_refl _) (Nat.le_refl _) (World.ownsRow_nil _ _ _ _) (by decide) (by decide) fun v1 u1 k1 s1 o1 _ => ?_
  rw [ask_umask (k := 16) g1 (by decide) (by decide), ask_ushrU (by omega), ask_umask (k := 16) (d 16 g1) (by decide) (by decide), ask_ushrU (by omega), ask_umask (k := 16) (d 32 g1) (by decide) (by decide), ask_ushrU (by omega)]
  refine a_push #[U (r1 % 2 ^ 16), U (r1 / 2 ^ 16 % 2 ^ 16), U (r1 / 2 ^ 32 % 2 ^ 16), U (r1 / 2 ^ 48)] hX hP tyW rfl rfl (by decide) (by decide) (by decide) (by kernel_rfl) rfl (one4 _ _ _ _) rfl (Nat.le_refl _) k1.sz0 o1 (by decide) (by decide) fun v2 u2 k2 s2 o2 _ => ?_
  rw [ask_umask (k := 16) g2 (by decide) (by decide), ask_ushrU (by omega), ask_umask (k := 16) (d 16 g2) (by decide) (by decide), ask_ushrU (by omega), ask_umask (k := 16) (d 32 g2) (by decide) (by decide), ask_ushrU (by omega)]
  refine a_push #[U (r2 % 2 ^ 16), U (r2 / 2 ^ 16 % 2 ^ 16), U (r2 / 2 ^ 32 % 2 ^ 16), U (r2 / 2 ^ 48)] hX hP tyW rfl rfl (by decide) (by decide) (by decide) (by kernel_rfl) rfl (one4 _ _ _ _) rfl (Nat.le_refl _) k2.sz0 o2 (by decide) (by decide) fun v3 u3 k3 s3 o3 _ => ?_
  rw [ask_umask (k := 16) g3 (by decide) (by decide), ask_ushrU (by omega), ask_umask (k := 16) (d 16 g3) (by decide) (by decide), ask_ushrU (by omega), ask_umask (k := 16) (d 32 g3) (by decide) (by decide), ask_ushrU (by omega)]
  refine a_push #[U (r3 % 2 ^ 16), U (r3 / 2 ^ 16 % 2 ^ 16), U (r3 / 2 ^ 32 % 2 ^ 16), U (r3 / 2 ^ 48)] hX hP tyW rfl rfl (by decide) (by decide) (by decide) (by kernel_rfl) rfl (one4 _ _ _ _) rfl (Nat.le_refl _) k3.sz0 o3 (by decide) (by decide) fun v4 u4 k4 s4 o4 _ => ?_
  refine call_W hX hS (T := T4r) (f := 62) rfl ([r0 % 2 ^ 16, r0 / 2 ^ 16 % 2 ^ 16, r0 / 2 ^ 32 % 2 ^ 16, r0 / 2 ^ 48, r1 % 2 ^ 16, r1 / 2 ^ 16 % 2 ^ 16, r1 / 2 ^ 32 % 2 ^ 16, r1 / 2 ^ 48,
    r2 % 2 ^ 16, r2 / 2 ^ 16 % 2 ^ 16, r2 / 2 ^ 32 % 2 ^ 16, r2 / 2 ^ 48, r3 % 2 ^ 16, r3 / 2 ^ 16 % 2 ^ 16, r3 / 2 ^ 32 % 2 ^ 16, r3 / 2 ^ 48], ()) (fun w hw => ⟨⟨_, _, rfl, ⟨(own_slAt o4).stp0 hw.stp, ?_⟩, rfl⟩, trivial⟩) fun v w w' _ _ _ _ hv => ?_
  · intro x hx
    simp only [B64] at *
    simp only [List.mem_cons, List.not_mem_nil, or_false] at hx
    show x < 65536
    rcases hx with rfl | rfl | rfl | rfl | rfl | rfl | rfl | rfl | rfl | rfl | rfl | rfl | rfl | rfl | rfl | rfl <;> omega
  · rw [num16_four r0 r1 r2 r3, hsum] at hv
    subst hv
    rw [ask_aggS, ask_selS0, ask_selS1, ask_selS2, ask_selS3]
    exact hR _ _ _ _ rfl
#print axioms keepsRleast
end Go.Vc
