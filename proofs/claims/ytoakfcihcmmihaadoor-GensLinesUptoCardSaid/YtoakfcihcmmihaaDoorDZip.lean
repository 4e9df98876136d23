/-
  What a sum costs at most, on both sides.
-/
import Derived.Test.YtoakfcihcmmihaaDoorDSig2
import Derived.Test.YtoakfcihcmmihaaDoorVcFree
namespace Go.Vc
open Go Go.Proofs Go.RowKit

def wN (w : Nat) : Nat := (256 + w - 1) / w + 1
def mostN (n w : Nat) : Nat := wN w * (n + 2 * 2 ^ w + w + 1)
theorem wN_le (w : Nat) : wN w ≤ 256 + w := by
  unfold wN
  have := Nat.div_le_self (256 + w - 1) w
  omega
theorem pow_le13 {w : Nat} (h : w ≤ 13) : 2 ^ w ≤ 8192 := Nat.pow_le_pow_right (n := 2) (by decide) h
theorem most_le {n w : Nat} (hn : n ≤ 8192) (hw : w ≤ 13) : mostN n w ≤ 8000000 := by
  have h1 := wN_le w
  have h2 := pow_le13 hw
  exact Nat.le_trans (Nat.mul_le_mul (show wN w ≤ 269 by omega) (show n + 2 * 2 ^ w + w + 1 ≤ 24590 by omega)) (by decide)
def domW (w : Nat) : Prop := 1 ≤ w ∧ w ≤ 13
def domM (p : Nat × Nat) : Prop := p.1 ≤ 8192 ∧ domW p.2
theorem J_inj {a b : Nat} (h : J a = J b) : a = b := by
  simp only [Value.int.injEq, true_and] at h
  omega
theorem injJ (a b : Nat) (_ : domW a) (_ : domW b) (h : [J a] = [J b]) : a = b := J_inj (by simpa using h)
theorem injJ2 (a b : Nat × Nat) (_ : domM a) (_ : domM b) (h : [J a.1, J a.2] = [J b.1, J b.2]) : a = b := by
  simp only [List.cons.injEq, and_true] at h
  exact Prod.ext (J_inj h.1) (J_inj h.2)

def ann103 : Ann := ⟨[], [], 70, [], [], none, [], []⟩
theorem vc103 (X : Ctx) (β : Nat → Nat) (x0 : Value) : (run Tryd.prog ann103 103 [.x (.v 0)] [] [] 2).den X (env0 [x0] X.w0) 2 β 0 (fun _ _ _ => False) = (
  Ask (rBin X.P .add 3 true false (J 256) x0) fun x2 =>
  Ask (rBin X.P .sub 3 false true x2 (J 1)) fun x3 =>
  Ask (rBin X.P .quo 3 false false x3 x0) fun x4 =>
  Ask (rBin X.P .add 3 false true x4 (J 1)) fun x5 =>
  Ret X X.w0 [] [] x5) := by kernel_rfl
def cWins : Contract := fnP (fun w : Nat => [J w]) domW (fun w v => v = J (wN w))
theorem keepsWins : Keeps1 Tryd.prog GT 103 cWins := by
  refine keepsP (T := T0) (A := ann103) injJ hMix keepT0 hGT (calls_of (by kernel_rfl)) (callsW_of (by kernel_rfl)) fun w w0 ⟨h1, h2⟩ _ => ⟨[.x (.v 0)], [], [], 2, env0 [J w] w0, fun b => b, 0, rfl, rfl, fun X hX => mem_none hX rfl, fun X hP hS hw hX hR => ?_⟩
  subst hw
  rw [vc103 X]
  rw [ask_addN (by omega), ask_subN (by omega) (by omega), ask_quoN h1 (by omega)]
  have := wN_le w
  unfold wN at this
  rw [ask_addN (by omega)]
  exact hR _ _ _ _ rfl
def ann104 : Ann := ⟨[], [], 70, [], [], none, [], []⟩
theorem vc104 (X : Ctx) (β : Nat → Nat) (x0 : Value) : (run Tryd.prog ann104 104 [.x (.v 0)] [] [] 2).den X (env0 [x0] X.w0) 2 β 0 (fun _ _ _ => False) = (
  Ask (rBin X.P .add 3 true false (J 256) x0) fun x2 =>
  Ask (rBin X.P .sub 3 false true x2 (J 1)) fun x3 =>
  Ask (rBin X.P .quo 3 false false x3 x0) fun x4 =>
  Ask (rBin X.P .add 3 false true x4 (J 1)) fun x5 =>
  Ret X X.w0 [] [] x5) := by kernel_rfl
theorem keepsRWins : Keeps1 Tryd.prog GT 104 cWins := by
  refine keepsP (T := T0) (A := ann104) injJ hMix keepT0 hGT (calls_of (by kernel_rfl)) (callsW_of (by kernel_rfl)) fun w w0 ⟨h1, h2⟩ _ => ⟨[.x (.v 0)], [], [], 2, env0 [J w] w0, fun b => b, 0, rfl, rfl, fun X hX => mem_none hX rfl, fun X hP hS hw hX hR => ?_⟩
  subst hw
  rw [vc104 X]
  rw [ask_addN (by omega), ask_subN (by omega) (by omega), ask_quoN h1 (by omega)]
  have := wN_le w
  unfold wN at this
  rw [ask_addN (by omega)]
  exact hR _ _ _ _ rfl

def Tzw : Table := (T0.add 103 cWins).add 104 cWins
theorem keepTzw : AllKeep Tryd.prog GT Tzw := (keepT0.add keepsWins).add keepsRWins
def ann65 : Ann := ⟨[], [103], 70, [], [], none, [], []⟩
theorem vc65 (X : Ctx) (β : Nat → Nat) (x0 x1 : Value) : (run Tryd.prog ann65 65 [.x (.v 0), .x (.v 1)] [] [] 3).den X (env0 [x0, x1] X.w0) 3 β 0 (fun _ _ _ => False) = (
  AskF X 103 [x1] fun x3 =>
  Ask (rBin X.P .shl 3 true false (J 2) x1) fun x4 =>
  Ask (rBin X.P .add 3 false false x0 x4) fun x5 =>
  Ask (rBin X.P .add 3 false false x5 x1) fun x6 =>
  Ask (rBin X.P .add 3 false true x6 (J 1)) fun x7 =>
  Ask (rBin X.P .mul 3 false false x3 x7) fun x8 =>
  Ret X X.w0 [] [] x8) := by kernel_rfl
def cMost : Contract := fnP (fun p : Nat × Nat => [J p.1, J p.2]) domM (fun p v => v = J (mostN p.1 p.2))
theorem keepsMost : Keeps1 Tryd.prog GT 65 cMost := by
  refine keepsP (T := Tzw) (A := ann65) injJ2 hMix keepTzw hGT (calls_of (by kernel_rfl)) (callsW_of (by kernel_rfl)) fun ⟨n, w⟩ w0 ⟨hn, h1, h2⟩ _ => ⟨[.x (.v 0), .x (.v 1)], [], [], 3, env0 [J n, J w] w0, fun b => b, 0, rfl, rfl, fun X hX => mem_none hX rfl, fun X hP hS hw hX hR => ?_⟩
  subst hw
  rw [vc65 X]
  dsimp only at hn h1 h2
  have hp := pow_le13 h2
  have hm := most_le hn h2
  refine call_PE hS (T := Tzw) (f := 103) rfl w ⟨h1, h2⟩ ?_
  rw [ask_shlN (by omega) (by omega), ask_addN (by omega), ask_addN (by omega), ask_addN (by omega), ask_mulN (Nat.lt_of_le_of_lt hm (by decide))]
  exact hR _ _ _ _ rfl
def ann67 : Ann := ⟨[], [104], 70, [], [], none, [], []⟩
theorem vc67 (X : Ctx) (β : Nat → Nat) (x0 x1 : Value) : (run Tryd.prog ann67 67 [.x (.v 0), .x (.v 1)] [] [] 3).den X (env0 [x0, x1] X.w0) 3 β 0 (fun _ _ _ => False) = (
  AskF X 104 [x1] fun x3 =>
  Ask (rBin X.P .shl 3 true false (J 2) x1) fun x4 =>
  Ask (rBin X.P .add 3 false false x0 x4) fun x5 =>
  Ask (rBin X.P .add 3 false false x5 x1) fun x6 =>
  Ask (rBin X.P .add 3 false true x6 (J 1)) fun x7 =>
  Ask (rBin X.P .mul 3 false false x3 x7) fun x8 =>
  Ret X X.w0 [] [] x8) := by kernel_rfl
theorem keepsRMost : Keeps1 Tryd.prog GT 67 cMost := by
  refine keepsP (T := Tzw) (A := ann67) injJ2 hMix keepTzw hGT (calls_of (by kernel_rfl)) (callsW_of (by kernel_rfl)) fun ⟨n, w⟩ w0 ⟨hn, h1, h2⟩ _ => ⟨[.x (.v 0), .x (.v 1)], [], [], 3, env0 [J n, J w] w0, fun b => b, 0, rfl, rfl, fun X hX => mem_none hX rfl, fun X hP hS hw hX hR => ?_⟩
  subst hw
  rw [vc67 X]
  dsimp only at hn h1 h2
  have hp := pow_le13 h2
  have hm := most_le hn h2
  refine call_PE hS (T := Tzw) (f := 104) rfl w ⟨h1, h2⟩ ?_
  rw [ask_shlN (by omega) (by omega), ask_addN (by omega), ask_addN (by omega), ask_addN (by omega), ask_mulN (Nat.lt_of_le_of_lt hm (by decide))]
  exact hR _ _ _ _ rfl

theorem min_one {n : Nat} (w : Nat) (h1 : 1 ≤ w) (h2 : w < 2) : mostN n 1 ≤ mostN n w := by
  obtain rfl : w = 1 := by omega
  exact Nat.le_refl _
def Tzm : Table := (T0.add 65 cMost).add 67 cMost
theorem keepTzm : AllKeep Tryd.prog GT Tzm := (keepT0.add keepsMost).add keepsRMost
def domN (n : Nat) : Prop := n ≤ 8192
theorem injN (a b : Nat) (_ : domN a) (_ : domN b) (h : [J a] = [J b]) : a = b := J_inj (by simpa using h)
def ann66 : Ann := ⟨[(3, ([3, 4], []))], [65], 70, [], [], none, [], []⟩
theorem vc66 (X : Ctx) (β : Nat → Nat) (x0 : Value) : (run Tryd.prog ann66 66 [.x (.v 0)] [] [] 2).den X (env0 [x0] X.w0) 2 β 0 (fun _ _ _ => False) = (
  ∃ (I0 : List Value → World → Prop) (μ0 : List Value → World → Nat), (∀ w, KnownV X X.w0 [] [] w → I0 [(J 1), (J 2)] w) ∧ ∀ x2 x3 w4, I0 [x2, x3] w4 →
    Ask (rBin X.P .leq 3 false true x3 (J 12)) fun x5 =>
    (∃ t, x5 = .bool t) ∧ (x5 = .bool true →
      AskF X 65 [x0, x3] fun x6 =>
      AskF X 65 [x0, x2] fun x7 =>
      Ask (rBin X.P .lss 3 false false x6 x7) fun x8 =>
      (∃ t, x8 = .bool t) ∧ (x8 = .bool true →
        Ask (rBin X.P .add 3 false true x3 (J 1)) fun x9 =>
        Again X w4 [] [] fun w => I0 [x3, x9] w ∧ μ0 [x3, x9] w < μ0 [x2, x3] w4) ∧ (x8 = .bool false →
        Ask (rBin X.P .add 3 false true x3 (J 1)) fun x9 =>
        Again X w4 [] [] fun w => I0 [x2, x9] w ∧ μ0 [x2, x9] w < μ0 [x2, x3] w4)) ∧ (x5 = .bool false →
      Ret X w4 [] [] x2)) := by kernel_rfl
def cSuits : Contract := fnP (fun n : Nat => [J n]) domN (fun n v => ∃ b, v = J b ∧ 1 ≤ b ∧ b ≤ 12 ∧ ∀ w, 1 ≤ w → w ≤ 12 → mostN n b ≤ mostN n w)
theorem keepsSuits : Keeps1 Tryd.prog GT 66 cSuits := by
  refine keepsP (T := Tzm) (A := ann66) injN hMix keepTzm hGT (calls_of (by kernel_rfl)) (callsW_of (by kernel_rfl)) fun n w0 hn _ => ⟨[.x (.v 0)], [], [], 2, env0 [J n] w0, fun b => b, 0, rfl, rfl, fun X hX => mem_none hX rfl, fun X hP hS hw hX hR => ?_⟩
  subst hw
  rw [vc66 X]
  refine ⟨fun a w => ∃ b k, a = [J b, J k] ∧ 1 ≤ b ∧ b < k ∧ k ≤ 13 ∧ (∀ w, 1 ≤ w → w < k → mostN n b ≤ mostN n w) ∧ Kn X w, fun a _ => match a with | [_, i] => 13 - intNat i | _ => 0,
    fun w hw => ⟨1, 2, rfl, by decide, by decide, by decide, min_one, hw.kn⟩, ?_⟩
  rintro _ _ w ⟨b, k, he, hb, hbk, hk, hmin, hkn⟩
  simp only [List.cons.injEq, and_true] at he
  obtain ⟨rfl, rfl⟩ := he
  rw [ask_leqN]
  refine a_ifD (fun hle => ?_) fun hgt => ?_
  · refine call_PE hS (T := Tzm) (f := 65) rfl (n, k) ⟨hn, by omega, by omega⟩ ?_
    refine call_PE hS (T := Tzm) (f := 65) rfl (n, b) ⟨hn, by omega, by omega⟩ ?_
    dsimp only
    rw [ask_lssN]
    refine a_ifD (fun hlt => ?_) fun hge => ?_
    · rw [ask_succ (by omega)]
      intro w2 hw2
      refine ⟨⟨k, k + 1, rfl, by omega, by omega, by omega, fun w h1 h2 => ?_, hw2.kn⟩, by simp [intNat]; omega⟩
      rcases Nat.lt_or_ge w k with h | h
      · exact Nat.le_trans (Nat.le_of_lt hlt) (hmin w h1 h)
      · obtain rfl : w = k := by omega
        exact Nat.le_refl _
    · rw [ask_succ (by omega)]
      intro w2 hw2
      refine ⟨⟨b, k + 1, rfl, by omega, by omega, by omega, fun w h1 h2 => ?_, hw2.kn⟩, by simp [intNat]; omega⟩
      rcases Nat.lt_or_ge w k with h | h
      · exact hmin w h1 h
      · obtain rfl : w = k := by omega
        omega
  · obtain rfl : k = 13 := by omega
    exact hR _ _ _ _ ⟨b, rfl, hb, by omega, fun w h1 h2 => hmin w h1 (by omega)⟩

/-- The least of what is done at most. -/
def IsMin (n m : Nat) : Prop := (∃ w, 1 ≤ w ∧ w ≤ 12 ∧ m = mostN n w) ∧ ∀ w, 1 ≤ w → w ≤ 12 → m ≤ mostN n w
theorem IsMin.unique {n a b : Nat} (h : IsMin n a) (k : IsMin n b) : a = b := by
  obtain ⟨⟨w, h1, h2, rfl⟩, h3⟩ := h
  obtain ⟨⟨x, k1, k2, rfl⟩, k3⟩ := k
  exact Nat.le_antisymm (h3 x k1 k2) (k3 w h1 h2)
def IsBound (n : Int) (m : Nat) : Prop := ((n < 0 ∨ 8192 < n) ∧ m = 0) ∨ (0 ≤ n ∧ n ≤ 8192 ∧ IsMin n.toNat m)
theorem IsBound.unique {n : Int} {a b : Nat} (h : IsBound n a) (k : IsBound n b) : a = b := by
  rcases h with ⟨h1, h2⟩ | ⟨h1, h2, h3⟩
  · rcases k with ⟨k1, k2⟩ | ⟨k1, k2, k3⟩
    · omega
    · omega
  · rcases k with ⟨k1, k2⟩ | ⟨k1, k2, k3⟩
    · omega
    · exact h3.unique k3
theorem injI (a b : Int) (_ : True) (_ : True) (h : [Value.int .i64 a] = [Value.int .i64 b]) : a = b := by simpa using h
def cBound : Contract := fnP (fun n : Int => [.int .i64 n]) (fun _ => True) (fun n v => ∃ m, v = J m ∧ IsBound n m)
def Tzb : Table := Tzm.add 66 cSuits
theorem keepTzb : AllKeep Tryd.prog GT Tzb := keepTzm.add keepsSuits
def ann30 : Ann := ⟨[], [65, 66], 70, [], [], none, [], []⟩
theorem vc30 (X : Ctx) (β : Nat → Nat) (x0 : Value) : (run Tryd.prog ann30 30 [.x (.v 0)] [] [] 2).den X (env0 [x0] X.w0) 2 β 0 (fun _ _ _ => False) = (
  Ask (rBin X.P .lss 3 false true x0 (J 0)) fun x2 =>
  AskG [(x2, false)] (rBin X.P .gtr 3 false true x0 (J 8192)) fun x3 =>
  Ask (rPick x2 (.bool true) x3) fun x4 =>
  (∃ t, x4 = .bool t) ∧ (x4 = .bool true →
    Ret X X.w0 [] [] (J 0)) ∧ (x4 = .bool false →
    AskF X 66 [x0] fun x5 =>
    AskF X 65 [x0, x5] fun x6 =>
    Ret X X.w0 [] [] x6)) := by kernel_rfl
theorem keepsBound : Keeps1 Tryd.prog GT 30 cBound := by
  refine keepsP (T := Tzb) (A := ann30) injI hMix keepTzb hGT (calls_of (by kernel_rfl)) (callsW_of (by kernel_rfl)) fun n w0 _ _ => ⟨[.x (.v 0)], [], [], 2, env0 [.int .i64 n] w0, fun b => b, 0, rfl, rfl, fun X hX => mem_none hX rfl, fun X hP hS hw hX hR => ?_⟩
  subst hw
  rw [vc30 X]
  rw [ask_lss]
  by_cases h0 : n < 0
  · rw [show decide (n < ((0 : Nat) : Int)) = true by simpa using h0]
    refine a_G_off (condsV1_not (by decide)) fun v => ?_
    rw [ask_pickT]
    exact a_if (fun _ => hR _ _ _ _ ⟨0, rfl, .inl ⟨.inl h0, rfl⟩⟩) fun h => by cases h
  rw [show decide (n < ((0 : Nat) : Int)) = false by simpa using h0]
  refine a_G_on condsV1 ?_
  rw [ask_gtr, ask_pickF]
  refine a_ifD (fun h => hR _ _ _ _ ⟨0, rfl, .inl ⟨.inr (by omega), rfl⟩⟩) fun h => ?_
  obtain ⟨k, rfl⟩ : ∃ k : Nat, n = k := ⟨n.toNat, by omega⟩
  refine call_P hS (T := Tzb) (f := 66) rfl k (show k ≤ 8192 by omega) fun v ⟨b, hv, hb1, hb2, hmin⟩ => ?_
  subst hv
  refine call_PE hS (T := Tzb) (f := 65) rfl (k, b) ⟨show k ≤ 8192 by omega, hb1, show b ≤ 13 by omega⟩ ?_
  exact hR _ _ _ _ ⟨_, rfl, .inr ⟨by omega, by omega, ⟨b, hb1, hb2, by simp⟩, by simpa using hmin⟩⟩
def ann31 : Ann := ⟨[(5, ([3, 4], []))], [67], 70, [], [], none, [], []⟩
theorem vc31 (X : Ctx) (β : Nat → Nat) (x0 : Value) : (run Tryd.prog ann31 31 [.x (.v 0)] [] [] 2).den X (env0 [x0] X.w0) 2 β 0 (fun _ _ _ => False) = (
  Ask (rBin X.P .lss 3 false true x0 (J 0)) fun x2 =>
  AskG [(x2, false)] (rBin X.P .gtr 3 false true x0 (J 8192)) fun x3 =>
  Ask (rPick x2 (.bool true) x3) fun x4 =>
  (∃ t, x4 = .bool t) ∧ (x4 = .bool true →
    Ret X X.w0 [] [] (J 0)) ∧ (x4 = .bool false →
    AskF X 67 [x0, (J 1)] fun x5 =>
    ∃ (I0 : List Value → World → Prop) (μ0 : List Value → World → Nat), (∀ w, KnownV X X.w0 [] [] w → I0 [x5, (J 2)] w) ∧ ∀ x6 x7 w8, I0 [x6, x7] w8 →
      Ask (rBin X.P .lss 3 false true x7 (J 13)) fun x9 =>
      (∃ t, x9 = .bool t) ∧ (x9 = .bool true →
        AskF X 67 [x0, x7] fun x10 =>
        Ask (rBin X.P .lss 3 false false x10 x6) fun x11 =>
        (∃ t, x11 = .bool t) ∧ (x11 = .bool true →
          Ask (rBin X.P .add 3 false true x7 (J 1)) fun x12 =>
          Again X w8 [] [] fun w => I0 [x10, x12] w ∧ μ0 [x10, x12] w < μ0 [x6, x7] w8) ∧ (x11 = .bool false →
          Ask (rBin X.P .add 3 false true x7 (J 1)) fun x12 =>
          Again X w8 [] [] fun w => I0 [x6, x12] w ∧ μ0 [x6, x12] w < μ0 [x6, x7] w8)) ∧ (x9 = .bool false →
        Ret X w8 [] [] x6))) := by kernel_rfl
theorem keepsRBound : Keeps1 Tryd.prog GT 31 cBound := by
  refine keepsP (T := Tzb) (A := ann31) injI hMix keepTzb hGT (calls_of (by kernel_rfl)) (callsW_of (by kernel_rfl)) fun n w0 _ _ => ⟨[.x (.v 0)], [], [], 2, env0 [.int .i64 n] w0, fun b => b, 0, rfl, rfl, fun X hX => mem_none hX rfl, fun X hP hS hw hX hR => ?_⟩
  subst hw
  rw [vc31 X]
  rw [ask_lss]
  by_cases h0 : n < 0
  · rw [show decide (n < ((0 : Nat) : Int)) = true by simpa using h0]
    refine a_G_off (condsV1_not (by decide)) fun v => ?_
    rw [ask_pickT]
    exact a_if (fun _ => hR _ _ _ _ ⟨0, rfl, .inl ⟨.inl h0, rfl⟩⟩) fun h => by cases h
  rw [show decide (n < ((0 : Nat) : Int)) = false by simpa using h0]
  refine a_G_on condsV1 ?_
  rw [ask_gtr, ask_pickF]
  refine a_ifD (fun h => hR _ _ _ _ ⟨0, rfl, .inl ⟨.inr (by omega), rfl⟩⟩) fun h => ?_
  obtain ⟨n, rfl⟩ : ∃ k : Nat, n = k := ⟨n.toNat, by omega⟩
  have hn : n ≤ 8192 := by omega
  refine call_PE hS (T := Tzb) (f := 67) rfl (n, 1) ⟨hn, Nat.le_refl 1, show 1 ≤ 13 by decide⟩ ?_
  dsimp only
  refine ⟨fun a w => ∃ b k, a = [J (mostN n b), J k] ∧ 1 ≤ b ∧ b < k ∧ k ≤ 13 ∧ (∀ w, 1 ≤ w → w < k → mostN n b ≤ mostN n w) ∧ Kn X w, fun a _ => match a with | [_, i] => 13 - intNat i | _ => 0,
    fun w hw => ⟨1, 2, rfl, by decide, by decide, by decide, min_one, hw.kn⟩, ?_⟩
  rintro _ _ w ⟨b, k, he, hb, hbk, hk, hmin, hkn⟩
  simp only [List.cons.injEq, and_true] at he
  obtain ⟨rfl, rfl⟩ := he
  rw [ask_lssN]
  refine a_ifD (fun hle => ?_) fun hgt => ?_
  · refine call_PE hS (T := Tzb) (f := 67) rfl (n, k) ⟨hn, show 1 ≤ k by omega, show k ≤ 13 by omega⟩ ?_
    dsimp only
    rw [ask_lssN]
    refine a_ifD (fun hlt => ?_) fun hge => ?_
    · rw [ask_succ (by omega)]
      intro w2 hw2
      refine ⟨⟨k, k + 1, rfl, by omega, by omega, by omega, fun w h1 h2 => ?_, hw2.kn⟩, by simp [intNat]; omega⟩
      rcases Nat.lt_or_ge w k with h | h
      · exact Nat.le_trans (Nat.le_of_lt hlt) (hmin w h1 h)
      · obtain rfl : w = k := by omega
        exact Nat.le_refl _
    · rw [ask_succ (by omega)]
      intro w2 hw2
      refine ⟨⟨b, k + 1, rfl, by omega, by omega, by omega, fun w h1 h2 => ?_, hw2.kn⟩, by simp [intNat]; omega⟩
      rcases Nat.lt_or_ge w k with h | h
      · exact hmin w h1 h
      · obtain rfl : w = k := by omega
        omega
  · obtain rfl : k = 13 := by omega
    exact hR _ _ _ _ ⟨_, rfl, .inr ⟨by omega, by omega, ⟨b, hb, by omega, by simp⟩, fun w h1 h2 => by simpa using hmin w h1 (by omega)⟩⟩
#print axioms keepsRBound
end Go.Vc
