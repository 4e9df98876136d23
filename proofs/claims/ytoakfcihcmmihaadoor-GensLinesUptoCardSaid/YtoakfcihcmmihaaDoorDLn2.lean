import Derived.Test.YtoakfcihcmmihaaDoorDSha7
import Derived.Test.YtoakfcihcmmihaaDoorDRm
/-
  SHA-512 of the document: Hash, Joined, Sum.
-/
namespace Go.Vc
open Go Go.Proofs Go.RowKit

theorem Stp.wid {u w : World} (h : Stp [] u w) (ex : List Nat) : Stp ex u w := ⟨h.size, fun b hb _ => h.past b hb List.not_mem_nil⟩
/-- As many bytes as a list may hold. -/
def mxB : Nat := 2 ^ 46
theorem oneMapB (l : List Nat) : ∀ c ∈ l.map B, c.oneCell' = true := fun c hc => by obtain ⟨y, _, rfl⟩ := List.mem_map.1 hc; rfl
theorem zl_lt (n : Nat) : zl n < 128 := Nat.mod_lt _ (by decide)
theorem zl_at {n z : Nat} (hz : z ≤ zl n) : (n + 1 + z) % 128 = 112 ↔ z = zl n := by unfold zl at *; omega
theorem pad_q (l : List Nat) : (pad l).length = 128 * ((pad l).length / 128) := by rw [pad_len]; unfold zl; omega
theorem pad_lt {l : List Nat} (h : ∀ x ∈ l, x < 256) : ∀ x ∈ pad l, x < 256 := fun x hx => by
  simp only [pad, List.mem_append, List.mem_cons, List.mem_replicate] at hx
  rcases hx with ((hx | rfl | ⟨_, rfl⟩) | hx) | hx
  · exact h x hx
  · decide
  · decide
  · exact be8_lt _ x hx
  · exact be8_lt _ x hx
theorem blk_lt (p : List Nat) : ∀ j, ∀ x ∈ blk p j, x < B64
  | 0 => by show ∀ x ∈ IV, x < B64; decide
  | _ + 1 => cpr_lt
/-- Bytes in an array. -/
theorem own_bs {w : World} {base n : Nat} {v : Value} {l : List Nat} (h : w.ownsRow base 5 1 v n (l.map B)) (hl : ∀ x ∈ l, x < 256) : Bs w v l ∧ n = l.length := by
  have hn : n = l.length := by have := h.1; simp at this; omega
  subst hn
  exact ⟨⟨own_slAt h, hl⟩, rfl⟩
theorem len_own {w : World} {base e n : Nat} {v : Value} {xs : List Value} (h : w.ownsRow base e 1 v n xs) : lenV v = n := lenV_of (own_slAt h)

/-! ### Hash -/
def ann124 : Ann := ⟨[(3, ([3], [])), (9, ([5], [1])), (14, ([7], [0, 1, 2])), (18, ([9], [2]))], [], 70, [(147, false), (148, false)], [2, 4, 6], none, [], []⟩
def kb124_0 (b0 : Nat) (x2 : Value) : List KB := [⟨b0, true, 146, (aggArr x2)⟩]
def kb124_1 (b0 b1 : Nat) (x2 x20 : Value) : List KB := [⟨b0, true, 146, (aggArr x2)⟩, ⟨b1, true, 174, (aggArr x20)⟩]
def kb124_2 (b0 b1 : Nat) (x2 x22 : Value) : List KB := [⟨b0, true, 146, (aggArr x2)⟩, ⟨b1, true, 174, (aggArr x22)⟩]
def kb124_3 (b0 b1 b2 : Nat) (x2 x22 x26 : Value) : List KB := [⟨b0, true, 146, (aggArr x2)⟩, ⟨b1, true, 174, (aggArr x22)⟩, ⟨b2, true, 146, (aggArr x26)⟩]
def kb124_4 (b0 b1 b2 : Nat) (x28 x29 x30 : Value) : List KB := [⟨b0, true, 146, (aggArr x28)⟩, ⟨b1, true, 174, (aggArr x29)⟩, ⟨b2, true, 146, (aggArr x30)⟩]
theorem vc124 (X : Ctx) (β : Nat → Nat) (x0 : Value) : (run Tryd.prog ann124 124 [.x (.v 0)] [] [] 2).den X (env0 [x0] X.w0) 2 β 0 (fun _ _ _ => False) = (
  Ask (rAgg 64 (.agg #[(.int .u8 0), (.int .u8 0), (.int .u8 0), (.int .u8 0), (.int .u8 0), (.int .u8 0), (.int .u8 0), (.int .u8 0), (.int .u8 0), (.int .u8 0), (.int .u8 0), (.int .u8 0), (.int .u8 0), (.int .u8 0), (.int .u8 0), (.int .u8 0), (.int .u8 0), (.int .u8 0), (.int .u8 0), (.int .u8 0), (.int .u8 0), (.int .u8 0), (.int .u8 0), (.int .u8 0), (.int .u8 0), (.int .u8 0), (.int .u8 0), (.int .u8 0), (.int .u8 0), (.int .u8 0), (.int .u8 0), (.int .u8 0), (.int .u8 0), (.int .u8 0), (.int .u8 0), (.int .u8 0), (.int .u8 0), (.int .u8 0), (.int .u8 0), (.int .u8 0), (.int .u8 0), (.int .u8 0), (.int .u8 0), (.int .u8 0), (.int .u8 0), (.int .u8 0), (.int .u8 0), (.int .u8 0), (.int .u8 0), (.int .u8 0), (.int .u8 0), (.int .u8 0), (.int .u8 0), (.int .u8 0), (.int .u8 0), (.int .u8 0), (.int .u8 0), (.int .u8 0), (.int .u8 0), (.int .u8 0), (.int .u8 0), (.int .u8 0), (.int .u8 0), (.int .u8 0)])) fun x2 =>
  AskNew X.w0 fun b0 =>
  AskO X X.w0 [] (kb124_0 b0 x2) true (appOp (.const (.slice none 0 0)) (.tmp 10) 112) 112 [(10, x0)] fun x3 w3 =>
  AskO X w3 [] (kb124_0 b0 x2) false (Go.Op.buildSlice 112 1 #[(0, Go.Operand.const (Go.Value.int Go.IntKind.u8 128))]) 112 [] fun x4 w4 =>
  AskO X w4 [] (kb124_0 b0 x2) true (appOp (.tmp 12) (.tmp 13) 112) 112 [(12, x3), (13, x4)] fun x5 w5 =>
  ∃ (I0 : List Value → World → Prop) (μ0 : List Value → World → Nat), (∀ w, KnownV X w5 [] (kb124_0 b0 x2) w → I0 [x5] w) ∧ ∀ x6 w7, I0 [x6] w7 →
    Ask (rLen X.P 112 x6) fun x8 =>
    Ask (rBin X.P .rem 3 false true x8 (J 128)) fun x9 =>
    Ask (rBin X.P .neq 3 false true x9 (J 112)) fun x10 =>
    (∃ t, x10 = .bool t) ∧ (x10 = .bool true →
      AskO X w7 [] (kb124_0 b0 x2) false (Go.Op.buildSlice 112 1 #[(0, Go.Operand.const (Go.Value.int Go.IntKind.u8 0))]) 112 [] fun x11 w11 =>
      AskO X w11 [] (kb124_0 b0 x2) true (appOp (.tmp 19) (.tmp 20) 112) 112 [(19, x6), (20, x11)] fun x12 w12 =>
      Again X w12 [] [] fun w => I0 [x12] w ∧ μ0 [x12] w < μ0 [x6] w7) ∧ (x10 = .bool false →
      AskW X w7 [] (kb124_0 b0 x2) false 147 [(U 0), (J 8)] fun x11 w11 =>
      AskO X w11 [] (kb124_0 b0 x2) true (appOp (.tmp 22) (.tmp 23) 112) 112 [(22, x6), (23, x11)] fun x12 w12 =>
      Ask (rLen X.P 112 x0) fun x13 =>
      Ask (rConv X.P 3 22 x13) fun x14 =>
      Ask (rBin X.P .mul 22 true false (U 8) x14) fun x15 =>
      AskW X w12 [] (kb124_0 b0 x2) false 147 [x15, (J 8)] fun x16 w16 =>
      AskO X w16 [] (kb124_0 b0 x2) true (appOp (.tmp 25) (.tmp 30) 112) 112 [(25, x12), (30, x16)] fun x17 w17 =>
      Ask (rLoad X w17 [] 174 (.pointer (some ⟨3, 0, none⟩))) fun x18 =>
      Ask (rAgg 8 (.agg #[(U 0), (U 0), (U 0), (U 0), (U 0), (U 0), (U 0), (U 0)])) fun _ =>
      AskNew w17 fun b1 =>
      Ask (rAgg 8 x18) fun x20 =>
      ∃ (I0 : List Value → World → Prop) (μ0 : List Value → World → Nat), (∀ w, KnownV X w17 [b1] (kb124_1 b0 b1 x2 x20) w → I0 [(J 0), x20] w) ∧ ∀ x21 x22 w23, I0 [x21, x22] w23 →
        Ask (rLen X.P 112 x17) fun x24 =>
        Ask (rBin X.P .lss 3 false false x21 x24) fun x25 =>
        (∃ t, x25 = .bool t) ∧ (x25 = .bool true →
          AskW X w23 [] (kb124_2 b0 b1 x2 x22) false 148 [x22, x17, x21] fun x26 w26 =>
          Ask (rAgg 8 x26) fun x27 =>
          Ask (rBin X.P .add 3 false true x21 (J 128)) fun x28 =>
          Again X w26 [b1] [] fun w => I0 [x28, x27] w ∧ μ0 [x28, x27] w < μ0 [x21, x22] w23) ∧ (x25 = .bool false →
          Ask (rAgg 64 (.agg #[(.int .u8 0), (.int .u8 0), (.int .u8 0), (.int .u8 0), (.int .u8 0), (.int .u8 0), (.int .u8 0), (.int .u8 0), (.int .u8 0), (.int .u8 0), (.int .u8 0), (.int .u8 0), (.int .u8 0), (.int .u8 0), (.int .u8 0), (.int .u8 0), (.int .u8 0), (.int .u8 0), (.int .u8 0), (.int .u8 0), (.int .u8 0), (.int .u8 0), (.int .u8 0), (.int .u8 0), (.int .u8 0), (.int .u8 0), (.int .u8 0), (.int .u8 0), (.int .u8 0), (.int .u8 0), (.int .u8 0), (.int .u8 0), (.int .u8 0), (.int .u8 0), (.int .u8 0), (.int .u8 0), (.int .u8 0), (.int .u8 0), (.int .u8 0), (.int .u8 0), (.int .u8 0), (.int .u8 0), (.int .u8 0), (.int .u8 0), (.int .u8 0), (.int .u8 0), (.int .u8 0), (.int .u8 0), (.int .u8 0), (.int .u8 0), (.int .u8 0), (.int .u8 0), (.int .u8 0), (.int .u8 0), (.int .u8 0), (.int .u8 0), (.int .u8 0), (.int .u8 0), (.int .u8 0), (.int .u8 0), (.int .u8 0), (.int .u8 0), (.int .u8 0), (.int .u8 0)])) fun x26 =>
          AskNew w23 fun b2 =>
          ∃ (I0 : List Value → World → Prop) (μ0 : List Value → World → Nat), (∀ w, KnownV X w23 [] (kb124_3 b0 b1 b2 x2 x22 x26) w → I0 [(J 0), x2, x22, x26] w) ∧ ∀ x27 x28 x29 x30 w31, I0 [x27, x28, x29, x30] w31 →
            Ask (rBin X.P .lss 3 false true x27 (J 8)) fun x32 =>
            (∃ t, x32 = .bool t) ∧ (x32 = .bool true →
              Ask (rIx 8 x27) fun x33 =>
              Ask (rSel (aggArr x29) (0 + intNat x33 * 1) 1 false) fun x34 =>
              AskW X w31 [] (kb124_4 b0 b1 b2 x28 x29 x30) false 147 [x34, (J 8)] fun x35 w35 =>
              ∃ (I1 : List Value → World → Prop) (μ1 : List Value → World → Nat), (∀ w, KnownV X w35 [] (kb124_4 b0 b1 b2 x28 x29 x30) w → I1 [(J 0), x30] w) ∧ ∀ x36 x37 w38, I1 [x36, x37] w38 →
                Ask (rBin X.P .lss 3 false true x36 (J 8)) fun x39 =>
                (∃ t, x39 = .bool t) ∧ (x39 = .bool true →
                  Ask (rBin X.P .mul 3 true false (J 8) x27) fun x40 =>
                  Ask (rBin X.P .add 3 false false x40 x36) fun x41 =>
                  Ask (rIad X.P 112 x35 x36) fun x42 =>
                  Ask (rLoad X w38 [] 5 x42) fun x43 =>
                  Ask (rIx 64 x41) fun x44 =>
                  Ask (rUpd (aggArr x37) (0 + intNat x44 * 1) 1 x43) fun x45 =>
                  Ask (rBin X.P .add 3 false true x36 (J 1)) fun x46 =>
                  Again X w38 [b2] [] fun w => I1 [x46, x45] w ∧ μ1 [x46, x45] w < μ1 [x36, x37] w38) ∧ (x39 = .bool false →
                  Ask (rBin X.P .add 3 false true x27 (J 1)) fun x40 =>
                  Again X w38 [] [] fun w => I0 [x40, x28, x29, x37] w ∧ μ0 [x40, x28, x29, x37] w < μ0 [x27, x28, x29, x30] w31)) ∧ (x32 = .bool false →
              Ask (rAgg 64 x30) fun x33 =>
              Ret X w31 [b0] [] x33)))) := by kernel_rfl
def Trh : Table := (T0.add 147 cNumr).add 148 cRtake
theorem keepTrh : AllKeep Tryd.prog GH Trh := (keepH0.add keepsNumr).add keepsRtake
def cHash : Contract := fnW (Cods.cons cBs Cods.nil) (fun p _ => p.1.length ≤ mxB) (fun p _ v _ => v = BA (sha p.1))
theorem keepsHash : Keeps1 Tryd.prog GH 124 cHash := by
  refine keepsW (T := Trh) (A := ann124) hMix keepTrh hGH (calls_of (by kernel_rfl)) (callsW_of (by kernel_rfl)) fun args ⟨l, _⟩ w0 hrd hpre hg => ?_
  obtain ⟨x, _, rfl, hx, rfl⟩ := hrd
  dsimp only at hx hpre
  replace hx := bs_rd.1 hx
  simp only [mxB] at hpre
  have hzl := zl_lt l.length
  refine ⟨[.x (.v 0)], [], [], 2, env0 [x] w0, fun b => b, 0, rfl, rfl, fun X hX => mem_none hX rfl, fun X hP hS hw hX hR => ?_⟩
  subst hw; try dsimp only at hR
  rw [vc124 X]
  rw [zeros64]
  refine a_aggB (by simp) ?_
  intro b0 hb0
  refine a_append hX hP tyB (v := .slice none 0 0) (x := x) rfl rfl rfl (by decide) (Nat.le_refl _) (Nat.le_refl _) (World.ownsRow_nil _ _ _ _) (fun w hw => hx.at_.stp0 hw.stp) (by simp) (oneMapB l) (fun _ h => by cases h) (fun _ _ _ h => by cases h)
    (by simp only [maxLen]; omega) (by omega) fun x3 w w3 hw k3 s3 su3 o3 hbl3 => ?_
  rw [List.nil_append, Nat.zero_add] at o3
  refine a_push #[B 128] hX hP tyB rfl rfl (by decide) (by decide) (by decide) (by kernel_rfl) rfl (by simp [B, Value.oneCell']) rfl (Nat.le_refl _) k3.sz0 o3 (by simp only [maxLen]; omega) (by omega) fun x5 w5 k5 s5 o5 _ => ?_
  have e5 : l.map B ++ (#[B 128] : Array Value).toList = (l ++ 128 :: List.replicate 0 0).map B := by simp
  rw [e5] at o5
  refine ⟨fun a w => ∃ v z, a = [v] ∧ z ≤ zl l.length ∧ w.ownsRow X.w0.heap.size 5 1 v (l.length + 1 + z) ((l ++ 128 :: List.replicate z 0).map B) ∧ Kn X w, fun a _ => match a with | [v] => l.length + 1 + zl l.length - lenV v | _ => 0,
    fun w hw => ⟨x5, 0, rfl, Nat.zero_le _, own_stp0 o5 hw.stp, hw.kn⟩, ?_⟩
  rintro v w7 ⟨v0, z, he, hz, o7, k7⟩
  simp only [List.cons.injEq, and_true] at he
  subst he
  refine a_len hP tyB (own_slAt o7) ?_
  rw [ask_remN (by decide), ask_neqN]
  refine a_ifN (fun hne => ?_) fun heq => ?_
  · have hzlt : z < zl l.length := by
      rcases Nat.lt_or_ge z (zl l.length) with h | h
      · exact h
      · exact absurd ((zl_at hz).2 (by omega)) hne
    refine a_push #[B 0] hX hP tyB rfl rfl (by decide) (by decide) (by decide) (by kernel_rfl) rfl (by simp [B, Value.oneCell']) rfl (Nat.le_refl _) k7.sz0 o7 (by simp only [maxLen]; omega) (by omega) fun x8 w8 k8 s8 o8 _ => ?_
    have e8 : (l ++ 128 :: List.replicate z 0).map B ++ (#[B 0] : Array Value).toList = (l ++ 128 :: List.replicate (z + 1) 0).map B := by
      rw [List.replicate_succ']; simp
    rw [e8] at o8
    intro w9 hw9
    exact ⟨⟨x8, z + 1, rfl, hzlt, own_stp0 o8 hw9.stp, hw9.kn⟩, by dsimp only; rw [len_own o8, len_own o7]; omega⟩
  obtain rfl := (zl_at hz).1 heq
  refine call_W hX hS (T := Trh) (f := 147) rfl (0, 8, ()) (fun w hw => ⟨⟨_, _, rfl, rfl, _, _, rfl, rfl, rfl⟩, rfl⟩) fun x11 w10 w11 hw10 k11 s11 su11 o11 => ?_
  dsimp only at o11
  have o7' := own_stp0 o7 su11
  refine a_append hX hP tyB rfl rfl rfl (by decide) (Nat.le_refl _) k11.sz0 o7' (fun w hw => (own_slAt o11).stp0 hw.stp) (by simp [be8_len]) (oneMapB _) (fun _ _ => List.not_mem_nil) (fun w2 hw2 => own_not_kb hw2 (own_stp0 o7' hw2.stp) rfl)
    (by simp only [maxLen]; omega) (by omega) fun x12 w12 w12' hw12 k12 s12 su12 o12 _ => ?_
  rw [← List.map_append] at o12
  refine a_len hP tyB hx.at_ ?_
  rw [hP, ask_j2u (by simp only [B64]; omega), ← hP, ask_umul, Nat.mul_comm 8]
  refine call_W hX hS (T := Trh) (f := 147) rfl (l.length * 8 % B64, 8, ()) (fun w hw => ⟨⟨_, _, rfl, rfl, _, _, rfl, rfl, rfl⟩, rfl⟩) fun x16 w15 w16 hw15 k16 s16 su16 o16 => ?_
  dsimp only at o16
  have o12' := own_stp0 o12 su16
  refine a_append hX hP tyB rfl rfl rfl (by decide) (Nat.le_refl _) k16.sz0 o12' (fun w hw => (own_slAt o16).stp0 hw.stp) (by simp [be8_len]) (oneMapB _) (fun _ _ => List.not_mem_nil) (fun w2 hw2 => own_not_kb hw2 (own_stp0 o12' hw2.stp) rfl)
    (by simp only [maxLen]; omega) (by omega) fun x17 w17 w17' hw17 k17 s17 su17 o17 _ => ?_
  rw [← List.map_append] at o17
  have ep : (l ++ 128 :: List.replicate (zl l.length) 0) ++ be8 0 ++ be8 (l.length * 8 % B64) = pad l := rfl
  rw [ep] at o17
  obtain ⟨hp, hpl⟩ := own_bs o17 (pad_lt hx.lt)
  rw [hpl] at o17
  have hi2 := hg.i2.stp (k17.stp0 hX) List.not_mem_nil
  rw [ask_load_agg (cs := IV.map U) (hP ▸ aggW8) (by rw [hP, szW8]; rfl) hi2.lt List.not_mem_nil (fun j c hj => by rw [(getU hj).2, Nat.zero_add]; exact hi2.at_ j (getU hj).1) k17.some]
  have foldU : Value.agg (IV.map U).toArray = UA IV := rfl
  rw [foldU, zeros8]
  refine a_aggU rfl ?_
  intro b1 hb1
  refine a_aggU rfl ?_
  have hq := pad_q l
  have hpp := pad_len l
  refine ⟨fun a w => ∃ j, a = [J (128 * j), UA (blk (pad l) j)] ∧ j ≤ (pad l).length / 128 ∧ Kn X w ∧ Stp [b1] w17' w, fun a _ => match a with | [i, _] => (pad l).length - intNat i | _ => 0,
    fun w hw => ⟨0, rfl, Nat.zero_le _, hw.kn, hw.stp⟩, ?_⟩
  rintro _ _ w23 ⟨j, he, hj, k23, s23⟩
  simp only [List.cons.injEq, and_true] at he
  obtain ⟨rfl, rfl⟩ := he
  have o23 := own_stp o17 s23 (own_off o17 (all1 hb1))
  obtain ⟨hp23, _⟩ := own_bs o23 (pad_lt hx.lt)
  refine a_len hP tyB hp23.at_ ?_
  rw [ask_lssN]
  refine a_ifD (fun hlt => ?_) fun hge => ?_
  · refine call_W hX hS (T := Trh) (f := 148) rfl (blk (pad l) j, pad l, 128 * j, ()) (fun w hw => ⟨⟨_, _, rfl, ⟨rfl, blk_len _ _, blk_lt _ _⟩, _, _, rfl, bs_rd.2 (hp23.stp0 hw.stp), _, _, rfl, rfl, rfl⟩, by dsimp only; omega⟩) fun v w25 w26 hw25 k26 s26 su26 hv => ?_
    obtain rfl := hv
    dsimp only
    refine a_aggU (cpr_len (blk_len _ _)) ?_
    rw [ask_addN (by omega)]
    intro w27 hw27
    refine ⟨⟨j + 1, ?_, by omega, hw27.kn, ?_⟩, by simp [intNat]; omega⟩
    · rw [show 128 * j + 128 = 128 * (j + 1) by omega]; rfl
    · have := (s23.trans su26).trans hw27.stp
      exact ⟨this.size, fun b hb hn => this.past b hb (by simpa using hn)⟩
  obtain rfl : j = (pad l).length / 128 := by omega
  refine a_aggB (by simp) ?_
  intro b2 hb2
  generalize hDe : blk (pad l) ((pad l).length / 128) = hD
  have h8 : hD.length = 8 := by rw [← hDe]; exact blk_len _ _
  have hdl := dig_len h8
  refine ⟨fun a w => ∃ i y, a = [J i, y, UA hD, BA ((dig hD).take (8 * i) ++ List.replicate (64 - 8 * i) 0)] ∧ i ≤ 8 ∧ Kn X w, fun a _ => match a with | [i, _, _, _] => 8 - intNat i | _ => 0,
    fun w hw => ⟨0, _, rfl, Nat.zero_le _, hw.kn⟩, ?_⟩
  rintro _ _ _ _ w31 ⟨i, y, he, hi, k31⟩
  simp only [List.cons.injEq, and_true] at he
  obtain ⟨rfl, rfl, rfl, rfl⟩ := he
  rw [ask_lssN]
  refine a_ifD (fun hlt => ?_) fun hge => ?_
  · rw [ask_ixN hlt]
    refine a_selU (k := i) (by rw [intNatJ]; omega) (by omega) ?_
    refine call_W hX hS (T := Trh) (f := 147) rfl (hD.getD i 0, 8, ()) (fun w hw => ⟨⟨_, _, rfl, rfl, _, _, rfl, rfl, rfl⟩, rfl⟩) fun x35 w34 w35 hw34 k35 s35 su35 o35 => ?_
    dsimp only at o35
    refine ⟨fun a w => ∃ j, a = [J j, BA ((dig hD).take (8 * i + j) ++ List.replicate (64 - (8 * i + j)) 0)] ∧ j ≤ 8 ∧ Kn X w ∧ Stp [b2] w35 w, fun a _ => match a with | [i, _] => 8 - intNat i | _ => 0,
      fun w hw => ⟨0, rfl, Nat.zero_le _, hw.kn, hw.stp.wid _⟩, ?_⟩
    rintro _ _ w38 ⟨j, he, hj, k38, s38⟩
    simp only [List.cons.injEq, and_true] at he
    obtain ⟨rfl, rfl⟩ := he
    rw [ask_lssN]
    refine a_ifD (fun hlt2 => ?_) fun hge2 => ?_
    · rw [ask_mulN (by omega), ask_addN (by omega)]
      have lo2 : b2 < w34.heap.size := hw34.low (by simp [kb124_4])
      have o38 := own_stp o35 s38 (off_own o35 (all1 lo2))
      refine a_iadN hP tyB (own_slAt o38) hlt2 ?_
      refine a_load_one (c := B ((dig hD).getD (8 * i + j) 0)) k38 (own_slAt o38) (hP ▸ aggU8) (fun _ _ => List.not_mem_nil) (by rw [Nat.mul_one, dig_at (by omega) hlt2]; simp [be8, hlt2]) ?_
      rw [ask_ixN (by omega)]
      refine a_updBA (k := 8 * i + j) (by rw [intNatJ]; omega) (by simp [hdl]; omega) ?_
      rw [ask_succ (by omega)]
      intro w2 hw2
      refine ⟨⟨j + 1, ?_, hlt2, hw2.kn, ?_⟩, by simp [intNat]; omega⟩
      · rw [show 64 - (8 * i + j) = 64 - (8 * i + (j + 1)) + 1 by omega, out_set (by omega)]
        rfl
      · have := s38.trans hw2.stp
        exact ⟨this.size, fun b hb hn => this.past b hb (by simpa using hn)⟩
    · obtain rfl : j = 8 := by omega
      rw [ask_succ (by omega)]
      intro w2 hw2
      exact ⟨⟨i + 1, _, rfl, hlt, hw2.kn⟩, by simp [intNat]; omega⟩
  obtain rfl : i = 8 := by omega
  rw [List.take_of_length_le (by omega), show 64 - 8 * 8 = 0 from rfl, List.replicate_zero, List.append_nil]
  refine a_aggB hdl ?_
  refine hR _ _ _ _ fun w hw => ?_
  unfold sha
  rw [hDe]
#print axioms keepsHash
end Go.Vc

/-
  SHA-512 of the document: Joined, Sum.
-/
namespace Go.Vc
open Go Go.Proofs Go.RowKit

def ann125 : Ann := ⟨[(3, ([3, 4], []))], [], 70, [], [], none, [], []⟩
theorem vc125 (X : Ctx) (β : Nat → Nat) (x0 : Value) : (run Tryd.prog ann125 125 [.x (.v 0)] [] [] 2).den X (env0 [x0] X.w0) 2 β 0 (fun _ _ _ => False) = (
  ∃ (I0 : List Value → World → Prop) (μ0 : List Value → World → Nat), (∀ w, KnownV X X.w0 [] [] w → I0 [(.slice none 0 0), (J 0)] w) ∧ ∀ x2 x3 w4, I0 [x2, x3] w4 →
    Ask (rLen X.P 148 x0) fun x5 =>
    Ask (rBin X.P .lss 3 false false x3 x5) fun x6 =>
    (∃ t, x6 = .bool t) ∧ (x6 = .bool true →
      Ask (rIad X.P 148 x0 x3) fun x7 =>
      Ask (rLoad X w4 [] 112 x7) fun x8 =>
      AskO X w4 [] [] true (appOp (.tmp 11) (.tmp 15) 112) 112 [(11, x2), (15, x8)] fun x9 w9 =>
      Ask (rBin X.P .add 3 false true x3 (J 1)) fun x10 =>
      Again X w9 [] [] fun w => I0 [x9, x10] w ∧ μ0 [x9, x10] w < μ0 [x2, x3] w4) ∧ (x6 = .bool false →
      Ret X w4 [] [] x2)) := by kernel_rfl
def cJoin : Contract := fnW (Cods.cons cBss Cods.nil) (fun p _ => p.1.flatten.length ≤ mxB) (fun p w v w' => w'.ownsRow w.heap.size 5 1 v p.1.flatten.length (p.1.flatten.map B) ∧ ∀ x ∈ p.1.flatten, x < 256)
theorem Bss.flat {w : World} {v : Value} {vs : List Value} {l : List (List Nat)} (h : Bss w v vs l) : ∀ x ∈ l.flatten, x < 256 := fun x hx => by
  obtain ⟨a, ha, hxa⟩ := List.mem_flatten.1 hx
  obtain ⟨i, hi⟩ := List.getElem?_of_mem ha
  have hl : i < vs.length := by rw [h.len]; exact (List.getElem?_eq_some_iff.1 hi).1
  exact (h.all i _ _ (List.getElem?_eq_getElem hl) hi).lt x hxa
theorem keepsJoin : Keeps1 Tryd.prog GH 125 cJoin := by
  refine keepsW (T := TN) (A := ann125) hMix keepTN hGH (calls_of (by kernel_rfl)) (callsW_of (by kernel_rfl)) fun args ⟨l, _⟩ w0 hrd hpre hg => ?_
  obtain ⟨x, _, rfl, hx, rfl⟩ := hrd
  dsimp only at hx hpre
  simp only [mxB] at hpre
  obtain ⟨vs, hx⟩ := bss_rd.1 hx
  have hmx := slAt_max hx.at_
  simp only [maxLen] at hmx
  refine ⟨[.x (.v 0)], [], [], 2, env0 [x] w0, fun b => b, 0, rfl, rfl, fun X hX => mem_none hX rfl, fun X hP hS hw hX hR => ?_⟩
  subst hw; try dsimp only at hR
  rw [vc125 X]
  refine ⟨fun a w => ∃ v i, a = [v, J i] ∧ i ≤ l.length ∧ w.ownsRow X.w0.heap.size 5 1 v (l.take i).flatten.length ((l.take i).flatten.map B) ∧ Kn X w, fun a _ => match a with | [_, i] => l.length - intNat i | _ => 0,
    fun w hw => ⟨_, 0, rfl, Nat.zero_le _, World.ownsRow_nil _ _ _ _, hw.kn⟩, ?_⟩
  rintro v _ w4 ⟨v0, i, he, hi, o4, k4⟩
  simp only [List.cons.injEq, and_true] at he
  obtain ⟨rfl, rfl⟩ := he
  refine a_len hP tyBB hx.at_ ?_
  rw [ask_lssN]
  refine a_ifD (fun hlt => ?_) fun hge => ?_
  · have hx4 := hx.stp0 (k4.stp0 hX)
    refine a_iadN hP tyBB hx4.at_ hlt ?_
    have hvl : i < vs.length := by rw [hx.len]; exact hlt
    refine a_load_one (c := vs[i]) k4 hx4.at_ (hP ▸ aggSl) (fun _ _ => List.not_mem_nil) (by rw [Nat.mul_one]; exact List.getElem?_eq_getElem hvl) ?_
    have hy := hx4.all i _ _ (List.getElem?_eq_getElem hvl) (List.getElem?_eq_getElem hlt)
    have hle := fl_le l (i + 1)
    rw [fl_take hlt, List.length_append] at hle
    refine a_append hX hP tyB rfl rfl rfl (by decide) (Nat.le_refl _) k4.sz0 o4 (fun w hw => hy.at_.stp0 hw.stp) (by simp) (oneMapB _) (fun _ _ => List.not_mem_nil) (fun w2 hw2 => own_not_kb hw2 (own_stp0 o4 hw2.stp) rfl)
      (by simp only [maxLen]; omega) (by omega) fun x9 w9 w9' hw9 k9 s9 su9 o9 _ => ?_
    rw [ask_succ (by omega)]
    intro w10 hw10
    refine ⟨⟨x9, i + 1, rfl, hlt, ?_, hw10.kn⟩, by simp [intNat]; omega⟩
    rw [fl_take hlt, List.length_append, List.map_append]
    exact own_stp0 o9 hw10.stp
  · obtain rfl : i = l.length := by omega
    rw [List.take_length] at o4
    exact hR _ _ _ _ fun w hw => ⟨own_stp0 o4 hw.stp, hx.flat⟩

def ann91 : Ann := ⟨[], [], 70, [(124, false), (125, false)], [], none, [], []⟩
def kb91_0 (b0 : Nat) : List KB := [⟨b0, true, 146, #[(.int .u8 0), (.int .u8 0), (.int .u8 0), (.int .u8 0), (.int .u8 0), (.int .u8 0), (.int .u8 0), (.int .u8 0), (.int .u8 0), (.int .u8 0), (.int .u8 0), (.int .u8 0), (.int .u8 0), (.int .u8 0), (.int .u8 0), (.int .u8 0), (.int .u8 0), (.int .u8 0), (.int .u8 0), (.int .u8 0), (.int .u8 0), (.int .u8 0), (.int .u8 0), (.int .u8 0), (.int .u8 0), (.int .u8 0), (.int .u8 0), (.int .u8 0), (.int .u8 0), (.int .u8 0), (.int .u8 0), (.int .u8 0), (.int .u8 0), (.int .u8 0), (.int .u8 0), (.int .u8 0), (.int .u8 0), (.int .u8 0), (.int .u8 0), (.int .u8 0), (.int .u8 0), (.int .u8 0), (.int .u8 0), (.int .u8 0), (.int .u8 0), (.int .u8 0), (.int .u8 0), (.int .u8 0), (.int .u8 0), (.int .u8 0), (.int .u8 0), (.int .u8 0), (.int .u8 0), (.int .u8 0), (.int .u8 0), (.int .u8 0), (.int .u8 0), (.int .u8 0), (.int .u8 0), (.int .u8 0), (.int .u8 0), (.int .u8 0), (.int .u8 0), (.int .u8 0)]⟩]
theorem vc91 (X : Ctx) (β : Nat → Nat) (x0 : Value) : (run Tryd.prog ann91 91 [.x (.v 0)] [] [] 2).den X (env0 [x0] X.w0) 2 β 0 (fun _ _ _ => False) = (
  AskNew X.w0 fun b0 =>
  AskW X X.w0 [] (kb91_0 b0) false 125 [x0] fun x2 w2 =>
  AskW X w2 [] (kb91_0 b0) false 124 [x2] fun x3 w3 =>
  Ask (rAgg 64 x3) fun x4 =>
  Ret X w3 [b0] [] x4) := by kernel_rfl
def Trs : Table := (T0.add 125 cJoin).add 124 cHash
theorem keepTrs : AllKeep Tryd.prog GH Trs := (keepH0.add keepsJoin).add keepsHash
def cRsum : Contract := fnW (Cods.cons cBss Cods.nil) (fun p _ => p.1.flatten.length ≤ mxB) (fun p _ v _ => v = BA (sha p.1.flatten))
theorem keepsRsum : Keeps1 Tryd.prog GH 91 cRsum := by
  refine keepsW (T := Trs) (A := ann91) hMix keepTrs hGH (calls_of (by kernel_rfl)) (callsW_of (by kernel_rfl)) fun args ⟨l, _⟩ w0 hrd hpre hg => ?_
  obtain ⟨x, _, rfl, hx, rfl⟩ := hrd
  dsimp only at hx hpre
  refine ⟨[.x (.v 0)], [], [], 2, env0 [x] w0, fun b => b, 0, rfl, rfl, fun X hX => mem_none hX rfl, fun X hP hS hw hX hR => ?_⟩
  subst hw; try dsimp only at hR
  rw [vc91 X]
  intro b0 hb0
  refine call_W hX hS (T := Trs) (f := 125) rfl (l, ()) (fun w hw => ⟨⟨_, _, rfl, by obtain ⟨vs, h⟩ := bss_rd.1 hx; exact bss_rd.2 ⟨vs, h.stp0 hw.stp⟩, rfl⟩, hpre⟩) fun v w w' hw k' s1 s2 hv => ?_
  obtain ⟨ho, hlt⟩ := hv
  obtain ⟨hb, _⟩ := own_bs ho hlt
  refine call_W hX hS (T := Trs) (f := 124) rfl (l.flatten, ()) (fun w hw => ⟨⟨_, _, rfl, bs_rd.2 (hb.stp0 hw.stp), rfl⟩, hpre⟩) fun v w3 w3' hw3 k3 s3 su3 hv => ?_
  obtain rfl := hv
  refine a_aggB (sha_len _) ?_
  exact hR _ _ _ _ fun w hw => rfl
#print axioms keepsRsum
end Go.Vc

/-
  Lines from bytes: seeds; scalars from 64 bytes.
-/
namespace Go.Vc
open Go Go.Proofs Go.RowKit

section
variable {P : Program} {K : Value → Prop} {t : TypeId} {cx cy : Bool}
theorem ask_shrN {a b : Nat} (hb : b < 64) : Ask (rBin P .shr t cx cy (J a) (J b)) K = K (J (a / 2 ^ b)) := by
  refine ask_eq (runs_iff fun w => ?_)
  have hm : min b IntKind.i64.bits = b := by simp only [IntKind.bits]; omega
  have hw : ((a : Int).fdiv (2 ^ b)) = ((a / 2 ^ b : Nat) : Int) := by
    rw [Int.fdiv_eq_ediv_of_nonneg _ (by exact Int.le_of_lt (Int.pow_pos (by omega)))]
    simp
  simp [binSem, eqGuard, binOp]
theorem ask_j2b {n : Nat} {K : Value → Prop} : Ask (rConv Tryd.prog 3 5 (J n)) K = K (B (n % 256)) :=
  ask_eq (runs_iff fun w => by
    have h1 : (convert 3 5 (J n)).run Tryd.prog w = .ok (.int .u8 (IntKind.u8.wrap (n : Int))) w := by kernel_rfl
    rw [h1, wrap_u8]; rfl)
end
/-- A whole number's bytes, the lowest first. -/
def le8 (i : Nat) : List Nat := (List.range 8).map fun k => i / 2 ^ (8 * k) % 256
theorem le8_len (i : Nat) : (le8 i).length = 8 := by simp [le8]
theorem le8_at {i k : Nat} (hk : k < 8) : (le8 i).getD k 0 = i / 2 ^ (8 * k) % 256 := by
  rw [List.getD_eq_getElem?_getD, List.getElem?_eq_getElem (by rw [le8_len]; exact hk)]
  simp [le8]
def seedB (k i : Nat) : List Nat := k :: le8 i
theorem seedB_len (k i : Nat) : (seedB k i).length = 9 := by simp [seedB, le8_len]
theorem seedB_lt {k i : Nat} (hk : k < 256) : ∀ x ∈ seedB k i, x < 256 := fun x hx => by
  simp only [seedB, List.mem_cons, le8, List.mem_map] at hx
  rcases hx with rfl | ⟨_, _, rfl⟩
  · exact hk
  · exact Nat.mod_lt _ (by decide)

/-! ### seeds -/
def ann99 : Ann := ⟨[(4, ([11], []))], [], 70, [], [], none, [], []⟩
def kb99_0 (b0 : Nat) (x0 x1 : Value) : List KB := [⟨b0, true, 160, #[x0, x1]⟩]
theorem vc99 (X : Ctx) (β : Nat → Nat) (x0 x1 : Value) : (run Tryd.prog ann99 99 [.l [.v 0, .v 1]] [] [] 3).den X (env0 [x0, x1] X.w0) 3 β 0 (fun _ _ _ => False) = (
  AskNew X.w0 fun b0 =>
  AskO X X.w0 [] (kb99_0 b0 x0 x1) false (Go.Op.makeSlice 112 (Go.Operand.const (Go.Value.int Go.IntKind.i64 9)) (Go.Operand.const (Go.Value.int Go.IntKind.i64 9))) 112 [] fun x3 w3 =>
  Ask (rConv X.P 3 5 x0) fun x4 =>
  Ask (rIad X.P 112 x3 (J 0)) fun x5 =>
  AskO X w3 [] (kb99_0 b0 x0 x1) true (Go.Op.store 5 (Go.Operand.tmp 10) (Go.Operand.tmp 9)) 0 [(10, x5), (9, x4)] fun _ w6 =>
  ∃ (I0 : List Value → World → Prop) (μ0 : List Value → World → Nat), (∀ w, KnownV X w6 [] (kb99_0 b0 x0 x1) w → I0 [(J 0)] w) ∧ ∀ x7 w8, I0 [x7] w8 →
    Ask (rBin X.P .lss 3 false true x7 (J 8)) fun x9 =>
    (∃ t, x9 = .bool t) ∧ (x9 = .bool true →
      Ask (rBin X.P .add 3 true false (J 1) x7) fun x10 =>
      Ask (rBin X.P .mul 3 true false (J 8) x7) fun x11 =>
      Ask (rBin X.P .shr 3 false false x1 x11) fun x12 =>
      Ask (rConv X.P 3 5 x12) fun x13 =>
      Ask (rIad X.P 112 x3 x10) fun x14 =>
      AskO X w8 [] (kb99_0 b0 x0 x1) true (Go.Op.store 5 (Go.Operand.tmp 23) (Go.Operand.tmp 22)) 0 [(23, x14), (22, x13)] fun _ w15 =>
      Ask (rBin X.P .add 3 false true x7 (J 1)) fun x16 =>
      Again X w15 [] [] fun w => I0 [x16] w ∧ μ0 [x16] w < μ0 [x7] w8) ∧ (x9 = .bool false →
      Ret X w8 [] [] x3)) := by kernel_rfl
def cPlc : Cods (Nat × Nat) := ⟨fun _ l p => l = [.agg #[J p.1, J p.2]], fun _ _ p q h k => by
  rw [h] at k
  simp only [List.cons.injEq, Value.agg.injEq, and_true] at k
  have k := congrArg Array.toList k
  simp only [List.cons.injEq, and_true] at k
  exact Prod.ext (J_inj0 k.1) (J_inj0 k.2)⟩
def cSeed : Contract := fnW cPlc (fun p _ => p.1 < 256 ∧ p.2 < 2 ^ 63) (fun p w v w' => w'.ownsRow w.heap.size 5 1 v 9 ((seedB p.1 p.2).map B))
theorem keepsSeed : Keeps1 Tryd.prog GH 99 cSeed := by
  refine keepsW (T := TN) (A := ann99) hMix keepTN hGH (calls_of (by kernel_rfl)) (callsW_of (by kernel_rfl)) fun args ⟨k, i⟩ w0 hrd hpre hg => ?_
  obtain rfl : args = _ := hrd
  dsimp only at hpre
  obtain ⟨hk, hi⟩ := hpre
  refine ⟨[.l [.v 0, .v 1]], [], [], 3, env0 [J k, J i] w0, fun b => b, 0, rfl, rfl, fun X hX => mem_none hX rfl, fun X hP hS hw hX hR => ?_⟩
  subst hw; try dsimp only at hR
  rw [vc99 X]
  intro b0 hb0
  refine a_make (n := 9) hX hP tyB rfl rfl (by decide) (by simp only [maxLen]; omega) fun g w w1 hw k1 s1 _ o1 => ?_
  rw [made_one (by rfl), ← mapB_rep, ← flatC] at o1
  rw [hP, ask_j2b, ← hP, Nat.mod_eq_of_lt hk]
  have hg0 := o1.lt g rfl
  have lo0 : b0 < w.heap.size := hw.low (by simp [kb99_0])
  have hgb : ∀ q, (Value.slice (some ⟨g, 0, none⟩) 9 9).ownBlock = some q → q ∉ (kb99_0 b0 (J k) (J i)).map (·.b) := fun q hq => by cases hq; simp [kb99_0]; omega
  refine a_iadN hP tyB (own_slAt o1) (by omega) ?_
  refine a_store (x := B k) (vs := encC k) hX hP szU8 rfl rfl rfl rfl rfl o1 hw.sz0 (by omega) (by decide) (fun _ _ => List.not_mem_nil) (fun _ _ => hgb) fun _ w3 w4 hw3 k4 s4 su o4 => ?_
  rw [lset_flat (enc := encC) encC_len k (List.replicate 9 0) 0 (by simp)] at o4
  refine ⟨fun a w2 => ∃ t, a = [J t] ∧ t ≤ 8 ∧ w2.ownsRow w.heap.size 5 1 (.slice (some ⟨g, 0, none⟩) 9 9) 9 ((k :: ((le8 i).take t ++ List.replicate (8 - t) 0)).flatMap encC) ∧ Kn X w2, fun a _ => match a with | [i] => 8 - intNat i | _ => 0,
    fun w2 hw2 => ⟨0, rfl, Nat.zero_le _, own_stp0 o4 hw2.stp, hw2.kn⟩, ?_⟩
  rintro _ w8 ⟨t, he, ht, o8, k8⟩
  simp only [List.cons.injEq, and_true] at he
  subst he
  rw [ask_lssN]
  refine a_ifD (fun hlt => ?_) fun hge => ?_
  · rw [ask_addN (by omega), ask_mulN (by omega), ask_shrN (by omega), hP, ask_j2b, ← hP, ← le8_at hlt]
    refine a_iadN hP tyB (own_slAt o8) (by omega) ?_
    refine a_store (x := B ((le8 i).getD t 0)) (vs := encC ((le8 i).getD t 0)) hX hP szU8 rfl rfl rfl rfl rfl o8 hw.sz0 (by omega) (by decide) (fun _ _ => List.not_mem_nil) (fun _ _ => hgb) fun _ w9 w10 hw9 k10 s10 su10 o10 => ?_
    have e : lset ((k :: ((le8 i).take t ++ List.replicate (8 - t) 0)).flatMap encC) ((1 + t) * 1) (encC ((le8 i).getD t 0)) = (k :: ((le8 i).take (t + 1) ++ List.replicate (8 - (t + 1)) 0)).flatMap encC := by
      rw [lset_flat (enc := encC) encC_len _ _ _ (by simp [le8_len]; omega), show 1 + t = t + 1 by omega, List.set_cons_succ, show 8 - t = (8 - (t + 1)) + 1 by omega, out_set (by rw [le8_len]; exact hlt)]
    rw [ask_succ (by omega)]
    intro w11 hw11
    refine ⟨⟨t + 1, rfl, hlt, ?_, hw11.kn⟩, by simp [intNat]; omega⟩
    rw [← e]
    exact own_stp0 o10 hw11.stp
  · obtain rfl : t = 8 := by omega
    refine hR _ _ _ _ fun w9 hw9 => ?_
    have := own_mono (own_stp0 o8 hw9.stp) hw.sz0
    rw [List.take_of_length_le (by rw [le8_len]; exact Nat.le_refl _), Nat.sub_self, List.replicate_zero, List.append_nil, flatC] at this
    exact this

def ann136 : Ann := ⟨[(3, ([5, 6], []))], [], 70, [], [], none, [], []⟩
theorem vc136 (X : Ctx) (β : Nat → Nat) (x0 x1 : Value) : (run Tryd.prog ann136 136 [.x (.v 0), .x (.v 1)] [] [] 3).den X (env0 [x0, x1] X.w0) 3 β 0 (fun _ _ _ => False) = (
  Ask (rConv X.P 3 5 x0) fun x3 =>
  AskO X X.w0 [] [] false (Go.Op.buildSlice 112 1 #[(0, Go.Operand.tmp 8)]) 112 [(8, x3)] fun x4 w4 =>
  ∃ (I0 : List Value → World → Prop) (μ0 : List Value → World → Nat), (∀ w, KnownV X w4 [] [] w → I0 [x4, (J 0)] w) ∧ ∀ x5 x6 w7, I0 [x5, x6] w7 →
    Ask (rBin X.P .lss 3 false true x6 (J 8)) fun x8 =>
    (∃ t, x8 = .bool t) ∧ (x8 = .bool true →
      Ask (rBin X.P .mul 3 true false (J 8) x6) fun x9 =>
      Ask (rBin X.P .shr 3 false false x1 x9) fun x10 =>
      Ask (rConv X.P 3 5 x10) fun x11 =>
      AskO X w7 [] [] false (Go.Op.buildSlice 112 1 #[(0, Go.Operand.tmp 19)]) 112 [(19, x11)] fun x12 w12 =>
      AskO X w12 [] [] true (appOp (.tmp 14) (.tmp 20) 112) 112 [(14, x5), (20, x12)] fun x13 w13 =>
      Ask (rBin X.P .add 3 false true x6 (J 1)) fun x14 =>
      Again X w13 [] [] fun w => I0 [x13, x14] w ∧ μ0 [x13, x14] w < μ0 [x5, x6] w7) ∧ (x8 = .bool false →
      Ret X w7 [] [] x5)) := by kernel_rfl
def cRseed : Contract := fnW (Cods.cons cJn (Cods.cons cJn Cods.nil)) (fun p _ => p.1 < 256 ∧ p.2.1 < 2 ^ 63) (fun p w v w' => w'.ownsRow w.heap.size 5 1 v 9 ((seedB p.1 p.2.1).map B))
theorem keepsRseed : Keeps1 Tryd.prog GH 136 cRseed := by
  refine keepsW (T := TN) (A := ann136) hMix keepTN hGH (calls_of (by kernel_rfl)) (callsW_of (by kernel_rfl)) fun args ⟨k, i, _⟩ w0 hrd hpre hg => ?_
  obtain ⟨_, _, rfl, rfl, _, _, rfl, rfl, rfl⟩ := hrd
  dsimp only at hpre
  obtain ⟨hk, hi⟩ := hpre
  refine ⟨[.x (.v 0), .x (.v 1)], [], [], 3, env0 [J k, J i] w0, fun b => b, 0, rfl, rfl, fun X hX => mem_none hX rfl, fun X hP hS hw hX hR => ?_⟩
  subst hw; try dsimp only at hR
  rw [vc136 X]
  rw [hP, ask_j2b, ← hP, Nat.mod_eq_of_lt hk]
  refine a_build #[B k] hX hP tyB (by decide) (by decide) (by kernel_rfl) rfl (by simp only [maxLen]; omega) fun g w w1 hw k1 s1 su1 o1 => ?_
  replace o1 := own_mono o1 hw.sz0
  refine ⟨fun a w2 => ∃ v t, a = [v, J t] ∧ t ≤ 8 ∧ w2.ownsRow X.w0.heap.size 5 1 v (1 + t) ((k :: (le8 i).take t).map B) ∧ Kn X w2, fun a _ => match a with | [_, i] => 8 - intNat i | _ => 0,
    fun w2 hw2 => ⟨_, 0, rfl, Nat.zero_le _, own_stp0 o1 hw2.stp, hw2.kn⟩, ?_⟩
  rintro v _ w7 ⟨v0, t, he, ht, o7, k7⟩
  simp only [List.cons.injEq, and_true] at he
  obtain ⟨rfl, rfl⟩ := he
  rw [ask_lssN]
  refine a_ifD (fun hlt => ?_) fun hge => ?_
  · rw [ask_mulN (by omega), ask_shrN (by omega), hP, ask_j2b, ← hP, ← le8_at hlt]
    refine a_push #[B ((le8 i).getD t 0)] hX hP tyB rfl rfl (by decide) (by decide) (by decide) (by kernel_rfl) rfl (by simp [B, Value.oneCell']) rfl (Nat.le_refl _) k7.sz0 o7 (by simp only [maxLen]; omega) (by omega) fun x8 w8 k8 s8 o8 _ => ?_
    rw [ask_succ (by omega)]
    intro w9 hw9
    refine ⟨⟨x8, t + 1, rfl, hlt, ?_, hw9.kn⟩, by simp [intNat]; omega⟩
    have e : (k :: (le8 i).take t).map B ++ (#[B ((le8 i).getD t 0)] : Array Value).toList = (k :: (le8 i).take (t + 1)).map B := by
      rw [List.take_succ_eq_append_getElem (by rw [le8_len]; exact hlt), List.getD_eq_getElem?_getD, List.getElem?_eq_getElem (by rw [le8_len]; exact hlt), ← List.cons_append, List.map_append]
      rfl
    rw [e] at o8
    rw [← Nat.add_assoc]
    exact own_stp0 o8 hw9.stp
  · obtain rfl : t = 8 := by omega
    refine hR _ _ _ _ fun w9 hw9 => ?_
    have := own_stp0 o7 hw9.stp
    rw [List.take_of_length_le (by rw [le8_len]; exact Nat.le_refl _)] at this
    exact this
#print axioms keepsRseed
end Go.Vc

/-
  Scalars from 64 bytes, on both sides.
-/
namespace Go.Vc
open Go Go.Proofs Go.RowKit

/-! ### Reduce -/
def ann131 : Ann := ⟨[], [126, 35], 70, [], [2], none, [], []⟩
theorem vc131 (X : Ctx) (β : Nat → Nat) (x0 : Value) : (run Tryd.prog ann131 131 [.x (.v 0)] [] [] 2).den X (env0 [x0] X.w0) 2 β 0 (fun _ _ _ => False) = (
  Ask (rAgg 32 x0) fun x2 =>
  AskNew X.w0 fun _ =>
  Ask (rAgg 4 (.agg #[(U 0), (U 0), (U 0), (U 0)])) fun _ =>
  AskNew X.w0 fun b1 =>
  AskF X 126 [x2] fun x4 =>
  AskF X 35 [x4] fun x5 =>
  Ask (rAgg 4 x5) fun x6 =>
  Ret X X.w0 [b1] [] x6) := by kernel_rfl
def Tre : Table := (T0.add 126 cFromB).add 35 cLeastS
theorem keepTre : AllKeep Tryd.prog GT Tre := (keepT0.add keepsFromB).add keepsLeast
def cReduce : Contract := fnP encBy (· < W256) (fun n v => v = S (n % lN))
theorem keepsReduce : Keeps1 Tryd.prog GT 131 cReduce := by
  refine keepsP (T := Tre) (A := ann131) injBy hMix keepTre hGT (calls_of (by kernel_rfl)) (callsW_of (by kernel_rfl)) fun n w0 hn _ => ⟨[.x (.v 0)], [], [], 2, env0 [BS n] w0, fun b => b, 0, rfl, rfl, fun X hX => mem_none hX rfl, fun X hP hS hw hX hR => ?_⟩
  subst hw
  rw [vc131 X]
  rw [ask_aggB]; intro _ _
  rw [ask_zero4]; intro _ _
  refine call_PE hS (T := Tre) (f := 126) rfl n hn ?_
  refine call_PE hS (T := Tre) (f := 35) rfl n hn ?_
  rw [ask_aggS]
  exact hR _ _ _ _ rfl

/-! ### Wide -/
theorem numB_app : ∀ (a b : List Nat), numB (a ++ b) = numB a + 256 ^ a.length * numB b
  | [], b => by simp [numB]
  | x :: a, b => by rw [List.cons_append, numB, numB_app a b, numB, List.length_cons, Nat.pow_succ, Nat.mul_add, ← Nat.mul_assoc, Nat.mul_comm (256 ^ a.length) 256]; omega
theorem memTU {X : Ctx} {w0 : World} (hX : X.w0 = w0) (hg : GT w0) {k : Nat} {xs : List Value} (hl : xs.length = k) : Mem X ⟨true, k + 2 - 1, []⟩ [some ⟨.wh k, 16, 130, false⟩] [(0, 0)] (env0 (xs ++ [.agg tabArr]) w0) (upd (fun b => b) 0 0) w0 := by
  have e : upd (fun b : Nat => b) 0 0 = fun b => b := by funext b; simp only [upd]; split <;> omega
  rw [e]; exact memT hX hg hl
def ann97 : Ann := ⟨[], [131, 114, 74], 70, [], [2], none, [1, 3, 4], []⟩
def kb97_0 (b0 : Nat) (x1 : Value) : List KB := [⟨b0, false, 130, (aggArr x1)⟩]
def kb97_1 (b0 b1 : Nat) (x1 x4 : Value) : List KB := [⟨b0, false, 130, (aggArr x1)⟩, ⟨b1, true, 24, (aggArr x4)⟩]
theorem vc97 (X : Ctx) (β : Nat → Nat) (x0 x1 : Value) (b0 : Nat) : (run Tryd.prog ann97 97 [.x (.v 0)] [some ⟨.wh 1, 16, 130, false⟩] [(0, 0)] 3).den X (env0 [x0, x1] X.w0) 3 (upd β 0 b0) 1 (fun _ _ _ => False) = (
  AskO X X.w0 [] (kb97_0 b0 x1) false (Go.Op.box 157 (Go.Operand.tmp 0)) 0 [(0, x0)] fun x3 w3 =>
  Ask (rAgg 4 (.agg #[(U 0), (U 0), (U 0), (U 0)])) fun x4 =>
  AskNew w3 fun b1 =>
  AskO X w3 [] (kb97_1 b0 b1 x1 x4) false (Go.Op.alloc 97) 0 [] fun x5 w5 =>
  AskO X w5 [] (kb97_1 b0 b1 x1 x4) false (Go.Op.alloc 97) 0 [] fun x6 w6 =>
  Ask (rSlc X.P 97 x5 none none none) fun x7 =>
  Ask (rSlc X.P 157 x3 none (some (J 32)) none) fun x8 =>
  AskO X w6 [] (kb97_1 b0 b1 x1 x4) true (Go.Op.call { callee := Go.Callee.builtin Go.Builtin.copy, args := #[Go.Operand.tmp 5, Go.Operand.tmp 6], argTypes := #[112, 112] }) 3 [(5, x7), (6, x8)] fun _ w9 =>
  Ask (rSlc X.P 97 x6 none none none) fun x10 =>
  Ask (rSlc X.P 157 x3 (some (J 32)) none none) fun x11 =>
  AskO X w9 [] (kb97_1 b0 b1 x1 x4) true (Go.Op.call { callee := Go.Callee.builtin Go.Builtin.copy, args := #[Go.Operand.tmp 8, Go.Operand.tmp 9], argTypes := #[112, 112] }) 3 [(8, x10), (9, x11)] fun _ w12 =>
  Ask (rLoad X w12 [] 97 x5) fun x13 =>
  AskF X 131 [x13] fun x14 =>
  Ask (rLoad X w12 [] 97 x6) fun x15 =>
  AskF X 131 [x15] fun x16 =>
  Ask (rSel (aggArr x1) 8 4 true) fun x17 =>
  AskF X 114 [x16, x17] fun x18 =>
  AskF X 74 [x14, x18] fun x19 =>
  Ask (rAgg 4 x19) fun x20 =>
  Ret X w12 [b1] [] x20) := by kernel_rfl
def enc64 (l : List Nat) : List Value := [BA l]
def dom64 (l : List Nat) : Prop := l.length = 64 ∧ ∀ x ∈ l, x < 256
theorem inj64 (a b : List Nat) (_ : dom64 a) (_ : dom64 b) (h : enc64 a = enc64 b) : a = b := by
  simp only [enc64, List.cons.injEq, BA, Value.agg.injEq, and_true] at h
  exact mapB_inj (congrArg Array.toList h)
/-- 64 bytes in an array. -/
def cB64 : Cod (List Nat) := ⟨fun _ v l => v = BA l ∧ l.length = 64 ∧ ∀ x ∈ l, x < 256, fun _ v a b h k => by
  have := h.1.symm.trans k.1
  simp only [BA, Value.agg.injEq] at this
  exact mapB_inj (congrArg Array.toList this)⟩
def cWide : Contract := fnP enc64 dom64 (fun l v => v = S (numB l % lN))
def Twi : Table := ((T0.add 131 cReduce).add 114 cProdS).add 74 cAddS
theorem keepTwi : AllKeep Tryd.prog GT Twi := ((keepT0.add keepsReduce).add keepsProd).add keepsAdd
theorem ar64 : Tryd.prog.underlying 157 = some (.array 64 5) := by kernel_rfl
theorem ar32 : Tryd.prog.underlying 97 = some (.array 32 5) := by kernel_rfl
theorem agg32 : agg? Tryd.prog 97 = some true := by kernel_rfl
theorem sz32 : sz Tryd.prog 97 = some 32 := by kernel_rfl
theorem ze32 : (Tryd.prog.info? 97).bind (·.zero) = some (BA (List.replicate 32 0)) := by kernel_rfl
section
variable {X : Ctx} {P : Program} {K : Value → Prop}
theorem a_slcPH {t n e b o hi : Nat} (hP : X.P = P) (hu : P.underlying t = some (.array n e)) (hs : sz P e = some 1) (h2 : hi ≤ n) (h3 : 0 < n) (hK : K (.slice (some ⟨b, o, none⟩) hi n)) : Ask (rSlc X.P t (.pointer (some ⟨b, o, none⟩)) none (some (J hi)) none) K := by
  subst hP
  have e : Ask (rSlc X.P t (.pointer (some ⟨b, o, none⟩)) none (some (J hi)) none) K = K (.slice (some ⟨b, o, none⟩) hi n) := ask_eq (runs_iff fun w => by
    have ht : X.P.underlying t = some (.array (X.P.arrayLen t) (X.P.elem t)) := by simp [Program.arrayLen, Program.elem, hu]
    have hl : X.P.arrayLen t = n := by simp [Program.arrayLen, hu]
    have hel : X.P.elem t = e := by simp [Program.elem, hu]
    rw [run_sliceAt_array_h w t ⟨b, o, none⟩ ht .i64 hi (by omega) (by rw [hl]; omega), hl, hel, run_sz hs w]
    have hne : ¬ n = 0 := by omega
    simp [slicedAt, hne, add_none])
  rw [e]; exact hK
end
/-- Cells of a variable, as a slice. -/
theorem slAt_row {w : World} {b o n cap : Nat} {cells : Array Value} {ty : TypeId} {xs : List Value} (h : w.heap[b]? = some (.cells cells ty (0, 0))) (hn : n ≤ cap) (hc : cap ≤ maxLen) (hx : ∀ (i : Nat) (x : Value), xs[i]? = some x → cells[o + i]? = some x) : SlAt w (.slice (some ⟨b, o, none⟩) n cap) n xs :=
  .inr ⟨b, o, cap, rfl, ⟨hn, hc⟩, fun i x hi => by simp [World.cell?, h, hx i x hi]⟩
theorem wide_law {a b : Nat} : (a % lN + b % lN * RR * Ri % lN) % lN = (a + W256 * b) % lN := by
  have hRR : RR * Ri % lN = W256 % lN := by decide
  have h1 : b % lN * RR * Ri % lN = W256 * b % lN := by rw [Nat.mul_assoc, Nat.mul_mod, Nat.mod_mod, hRR, ← Nat.mul_mod, Nat.mul_comm]
  rw [h1, ← Nat.add_mod]
theorem keepsWide : Keeps1 Tryd.prog GT 97 cWide := by
  refine keepsP (T := Twi) (A := ann97) inj64 hMix keepTwi hGT (calls_of (by kernel_rfl)) (callsW_of (by kernel_rfl)) fun d w0 ⟨hd, hlt⟩ hG => ⟨[.x (.v 0)], [some ⟨.wh 1, 16, 130, false⟩], [(0, 0)], 3, env0 ([BA d] ++ [.agg tabArr]) w0, upd (fun b => b) 0 0, 1, rfl, rfl, fun X hX => memTU (k := 1) (xs := [BA d]) hX hG rfl, fun X hP hS hw hX hR => ?_⟩
  subst hw
  simp only [List.cons_append, List.nil_append]
  rw [vc97 X]
  have e32 : ((d.take 32).map B).length = 32 := by simp [hd]
  refine a_box hX.n rfl fun r w w3 hw k3 s3 su3 hr3 row3 sz3 => ?_
  have row3' : w3.heap[r]? = some (.cells (d.map B).toArray 157 (0, 0)) := row3
  rw [ask_zero4]
  intro b1 hb1
  have kb : ∀ {u : World} {x : Value} {w : World}, KnownV X u [] (kb97_1 0 b1 (.agg tabArr) x) w → b1 < w.heap.size ∧ 0 < X.w0.heap.size := fun h => ⟨h.low (by simp [kb97_1]), hG.1⟩
  refine a_alloc hX.n hP ze32 fun r5 w4 w5 hw4 k5 s5 su5 hr5 row5 sz5 => ?_
  refine a_alloc hX.n hP ze32 fun r6 w5' w6 hw5 k6 s6 su6 hr6 row6 sz6 => ?_
  have q1 := kb hw4; have q2 := kb hw5
  have z3 := hw.sz0; have z4 := hw4.sz0; have z5 := hw5.size; have z6 := hw4.size
  have nin : ∀ {q : Nat} {x : Value}, b1 < q → 0 < q → q ∉ (kb97_1 0 b1 (.agg tabArr) x).map (·.b) := fun h1 h2 => by simp [kb97_1]; omega
  -- what lies where
  have row3a := (su6.past r (by omega) List.not_mem_nil).trans ((su5.past r (by omega) List.not_mem_nil).trans row3')
  have row5a := (su6.past r5 (by omega) List.not_mem_nil).trans row5
  have src : ∀ {w : World} {o n cap : Nat}, w.heap[r]? = some (.cells (d.map B).toArray 157 (0, 0)) → n ≤ cap → cap ≤ 64 → SlAt w (.slice (some ⟨r, o, none⟩) n cap) n (((d.drop o).take n).map B) := fun h h1 h2 =>
    slAt_row h h1 (by simp only [maxLen]; omega) fun i x hi => by
      rw [List.getElem?_map, List.getElem?_take] at hi
      split at hi
      · rw [List.getElem?_drop] at hi
        rw [List.getElem?_toArray, List.getElem?_map]; exact hi
      · cases hi
  refine a_slcP0 hP ar32 szU8 (by decide) ?_
  refine a_slcPH hP ar64 szU8 (by decide) (by decide) ?_
  refine a_copy (n := 32) (m := 32) (xs := ((d.drop 0).take 32).map B) hX.n hP tyB.sl szB1 rfl rfl (fun w hw => src ((hw.past r (by omega) List.not_mem_nil).trans row3a) (by decide) (by decide)) (by simp [hd]) rfl (oneMapB _) row5a List.not_mem_nil (hX.n _ (by omega)) (nin (by omega) (by omega)) (by simp [BA, Value.cells]) (by decide) fun w7 w9 hw7 k9 s9 su9 row9 sz9 => ?_
  have z9 := hw7.size; have z9' := s9.size
  have row3b := (su9.past r (by omega) (by simp; omega)).trans row3a
  have row6b := (su9.past r6 (by omega) (by simp; omega)).trans row6
  refine a_slcP0 hP ar32 szU8 (by decide) ?_
  refine a_slcPL hP ar64 szU8 (by decide) ?_
  refine a_copy (n := 32) (m := 32) (xs := ((d.drop 32).take 32).map B) hX.n hP tyB.sl szB1 rfl rfl (fun w hw => src ((hw.past r (by omega) List.not_mem_nil).trans row3b) (by decide) (by decide)) (by simp [hd]) rfl (oneMapB _) row6b List.not_mem_nil (hX.n _ (by omega)) (nin (by omega) (by omega)) (by simp [BA, Value.cells]) (by decide) fun w10 w12 hw10 k12 s12 su12 row12 sz12 => ?_
  have z12 := hw10.size; have z12' := s12.size
  have row5b := (su12.past r5 (by omega) (by simp; omega)).trans row9
  have sp : ∀ {l : List Nat}, l.length = 32 → splice (BA (List.replicate 32 0)).cells 0 ((l.map B).take 32) = (l.map B).toArray := fun {l} hl => by
    unfold splice
    rw [List.take_of_length_le (l := l.map B) (by simp [hl]), List.drop_of_length_le (by simp [hl, BA, Value.cells])]
    simp
  rw [sp (by simp [hd])] at row5b row12
  have ld : ∀ {l : List Nat} {b : Nat}, l.length = 32 → (∀ x ∈ l, x < 256) → w12.heap[b]? = some (.cells (l.map B).toArray 97 (0, 0)) → ∀ {K : Value → Prop}, K (BS (numB l)) → Ask (rLoad X w12 [] 97 (.pointer (some ⟨b, 0, none⟩))) K := fun {l b} hl hlt' hrow K hK => by
    refine a_ldPA (cs := l.map B) k12 (hP ▸ agg32) (by rw [hP, sz32]; simp [hl]) hrow List.not_mem_nil (fun j c hj => by rw [Nat.zero_add, List.getElem?_toArray]; exact hj) ?_
    rw [(BS_of hl hlt').1]; exact hK
  have lo := BS_of (l := (d.drop 0).take 32) (by simp [hd]) (fun x hx => hlt x (by simpa using List.mem_of_mem_take hx))
  have hi := BS_of (l := (d.drop 32).take 32) (by simp [hd]) (fun x hx => hlt x (List.mem_of_mem_drop (List.mem_of_mem_take hx)))
  refine ld (l := (d.drop 0).take 32) (by simp [hd]) (fun x hx => hlt x (by simpa using List.mem_of_mem_take hx)) row5b ?_
  refine call_PE hS (T := Twi) (f := 131) rfl _ lo.2 ?_
  refine ld (l := (d.drop 32).take 32) (by simp [hd]) (fun x hx => hlt x (List.mem_of_mem_drop (List.mem_of_mem_take hx))) row12 ?_
  refine call_PE hS (T := Twi) (f := 131) rfl _ hi.2 ?_
  rw [ask_tabR]
  refine call_PE hS (T := Twi) (f := 114) rfl (numB ((d.drop 32).take 32) % lN, RR) ⟨Nat.mod_lt _ (by decide), show RR < W256 by decide⟩ ?_
  refine call_PE hS (T := Twi) (f := 74) rfl (_, _) ⟨Nat.lt_trans (Nat.mod_lt _ (by decide)) (by decide), Nat.lt_trans (Nat.mod_lt _ (by decide)) (by decide)⟩ ?_
  rw [ask_aggS]
  refine hR _ _ _ _ ?_
  dsimp only
  rw [wide_law]
  have e : numB d = numB (d.take 32) + 256 ^ (d.take 32).length * numB (d.drop 32) := by rw [← numB_app, List.take_append_drop]
  have e1 : W256 = 256 ^ 32 := by decide
  rw [e, List.drop_zero, List.take_of_length_le (l := d.drop 32) (by rw [List.length_drop, hd]; decide), List.length_take, hd, e1]
  rfl
/-! ### Wide of the document -/
def ann135 : Ann := ⟨[(3, ([3, 4], []))], [], 70, [(101, false)], [1], none, [], []⟩
def kb135_0 (b0 b1 : Nat) (x2 : Value) : List KB := [⟨b0, true, 157, (aggArr x2)⟩, ⟨b1, true, 36, #[(U 0), (U 0), (U 0), (U 0)]⟩]
theorem vc135 (X : Ctx) (β : Nat → Nat) (x0 : Value) : (run Tryd.prog ann135 135 [.x (.v 0)] [] [] 2).den X (env0 [x0] X.w0) 2 β 0 (fun _ _ _ => False) = (
  Ask (rAgg 64 x0) fun x2 =>
  AskNew X.w0 fun b0 =>
  AskNew X.w0 fun b1 =>
  ∃ (I0 : List Value → World → Prop) (μ0 : List Value → World → Nat), (∀ w, KnownV X X.w0 [] (kb135_0 b0 b1 x2) w → I0 [(.slice none 0 0), (J 0)] w) ∧ ∀ x3 x4 w5, I0 [x3, x4] w5 →
    Ask (rBin X.P .lss 3 false true x4 (J 64)) fun x6 =>
    (∃ t, x6 = .bool t) ∧ (x6 = .bool true →
      Ask (rIx 64 x4) fun x7 =>
      Ask (rSel (aggArr x2) (0 + intNat x7 * 1) 1 false) fun x8 =>
      Ask (rConv X.P 5 22 x8) fun x9 =>
      Ask (rBin X.P .add 3 false true x4 (J 1)) fun x10 =>
      Ask (rIx 64 x10) fun x11 =>
      Ask (rSel (aggArr x2) (0 + intNat x11 * 1) 1 false) fun x12 =>
      Ask (rConv X.P 5 22 x12) fun x13 =>
      Ask (rBin X.P .shl 22 false true x13 (U 8)) fun x14 =>
      Ask (rBin X.P .or 22 false false x9 x14) fun x15 =>
      AskO X w5 [] (kb135_0 b0 b1 x2) false (Go.Op.buildSlice 164 1 #[(0, Go.Operand.tmp 20)]) 164 [(20, x15)] fun x16 w16 =>
      AskO X w16 [] (kb135_0 b0 b1 x2) true (appOp (.tmp 9) (.tmp 21) 164) 164 [(9, x3), (21, x16)] fun x17 w17 =>
      Ask (rBin X.P .add 3 false true x4 (J 2)) fun x18 =>
      Again X w17 [] [] fun w => I0 [x17, x18] w ∧ μ0 [x17, x18] w < μ0 [x3, x4] w5) ∧ (x6 = .bool false →
      AskW X w5 [] (kb135_0 b0 b1 x2) false 101 [x3] fun x7 w7 =>
      Ask (rAgg 4 x7) fun x8 =>
      Ask (rSel (aggArr x8) 0 1 false) fun x9 =>
      Ask (rSel (aggArr x8) 1 1 false) fun x10 =>
      Ask (rSel (aggArr x8) 2 1 false) fun x11 =>
      Ask (rSel (aggArr x8) 3 1 false) fun x12 =>
      Ret X w7 [b1] [] (.agg #[x9, x10, x11, x12]))) := by kernel_rfl
/-- Two bytes a word. -/
def pairs : List Nat → List Nat
  | a :: b :: r => (a + b * 256) :: pairs r
  | _ => []
theorem num16_pairs : ∀ (n : Nat) (l : List Nat), l.length = 2 * n → num16 (pairs l) = numB l
  | 0, l, h => by obtain rfl := List.eq_nil_of_length_eq_zero h; rfl
  | n + 1, a :: b :: r, h => by
    rw [pairs, num16, num16_pairs n r (by simp at h; omega), numB, numB]
    omega
theorem pairs_len : ∀ (n : Nat) (l : List Nat), l.length = 2 * n → (pairs l).length = n
  | 0, l, h => by obtain rfl := List.eq_nil_of_length_eq_zero h; rfl
  | n + 1, a :: b :: r, h => by rw [pairs, List.length_cons, pairs_len n r (by simp at h; omega)]
theorem pairs_at : ∀ (n : Nat) (l : List Nat), l.length = 2 * n → ∀ i, i < n → (pairs l).getD i 0 = l.getD (2 * i) 0 + l.getD (2 * i + 1) 0 * 256
  | n + 1, a :: b :: r, h, 0, _ => rfl
  | n + 1, a :: b :: r, h, i + 1, hi => by
    have := pairs_at n r (by simp at h; omega) i (by omega)
    rw [pairs, show 2 * (i + 1) = 2 * i + 1 + 1 by omega]
    simpa using this
theorem pairs_lt {l : List Nat} {n : Nat} (h : l.length = 2 * n) (hl : ∀ x ∈ l, x < 256) : ∀ x ∈ pairs l, x < 65536 := fun x hx => by
  obtain ⟨i, hi⟩ := List.getElem?_of_mem hx
  have hil : i < n := by rw [← pairs_len n l h]; exact (List.getElem?_eq_some_iff.1 hi).1
  have := pairs_at n l h i hil
  rw [List.getD_eq_getElem?_getD, hi] at this
  have h1 := getD_lt hl (by decide) (2 * i)
  have h2 := getD_lt hl (by decide) (2 * i + 1)
  rw [Option.getD_some] at this
  omega
def cRwide : Contract := fnW (Cods.cons cB64 Cods.nil) (fun _ _ => True) (fun p _ v _ => v = S (numB p.1 % lN))
def Trw : Table := T0.add 101 cRwords
theorem keepTrw : AllKeep Tryd.prog GT Trw := keepT0.add keepsRwords
theorem tyW16 : ElTy Tryd.prog 164 22 1 8 (U 0) := ⟨by kernel_rfl, by kernel_rfl⟩
theorem keepsRwide : Keeps1 Tryd.prog GT 135 cRwide := by
  refine keepsW (T := Trw) (A := ann135) hMix keepTrw hGT (calls_of (by kernel_rfl)) (callsW_of (by kernel_rfl)) fun args ⟨d, _⟩ w0 hrd hpre hg => ?_
  obtain ⟨_, _, rfl, ⟨rfl, hd, hlt⟩, rfl⟩ := hrd
  dsimp only at hd hlt
  refine ⟨[.x (.v 0)], [], [], 2, env0 [BA d] w0, fun b => b, 0, rfl, rfl, fun X hX => mem_none hX rfl, fun X hP hS hw hX hR => ?_⟩
  subst hw; try dsimp only at hR
  rw [vc135 X]
  refine a_aggB hd ?_
  intro b0 hb0
  intro b1 hb1
  have hpl := pairs_len 32 d hd
  refine ⟨fun a w => ∃ v t, a = [v, J (2 * t)] ∧ t ≤ 32 ∧ w.ownsRow X.w0.heap.size 22 1 v t (((pairs d).take t).map U) ∧ Kn X w, fun a _ => match a with | [_, i] => 64 - intNat i | _ => 0,
    fun w hw => ⟨_, 0, rfl, Nat.zero_le _, World.ownsRow_nil _ _ _ _, hw.kn⟩, ?_⟩
  rintro v _ w5 ⟨v0, t, he, ht, o5, k5⟩
  simp only [List.cons.injEq, and_true] at he
  obtain ⟨rfl, rfl⟩ := he
  rw [ask_lssN]
  refine a_ifD (fun hlt64 => ?_) fun hge => ?_
  · have h1 := getD_lt hlt (by decide) (2 * t)
    have h2 := getD_lt hlt (by decide) (2 * t + 1)
    rw [ask_ixN hlt64]
    refine a_selBA (k := 2 * t) (by rw [intNatJ]; omega) (by omega) ?_
    rw [hP, ask_b2u (Nat.lt_trans h1 (by decide)), ← hP, ask_succ (by omega), ask_ixN (by omega)]
    refine a_selBA (k := 2 * t + 1) (by rw [intNatJ]; omega) (by omega) ?_
    rw [hP, ask_b2u (Nat.lt_trans h2 (by decide)), ← hP, ask_ushlU (by decide), show (2 : Nat) ^ 8 = 256 from rfl, Nat.mod_eq_of_lt (show d.getD (2 * t + 1) 0 * 256 < B64 by simp only [B64]; omega), ask_uorD 8 (by simp only [B64]; omega) (by omega) h1 (Nat.lt_trans h1 (by decide)), ← pairs_at 32 d hd t (by omega)]
    refine a_push #[U ((pairs d).getD t 0)] hX hP tyW16 rfl rfl (by decide) (by decide) (by decide) (by kernel_rfl) rfl (by simp [U, Value.oneCell']) rfl (Nat.le_refl _) k5.sz0 o5 (by simp only [maxLen]; omega) (by omega) fun x8 w8 k8 s8 o8 _ => ?_
    rw [ask_addN (by omega)]
    intro w9 hw9
    refine ⟨⟨x8, t + 1, by rw [show 2 * (t + 1) = 2 * t + 2 by omega], by omega, ?_, hw9.kn⟩, by simp [intNat]; omega⟩
    have e : ((pairs d).take t).map U ++ (#[U ((pairs d).getD t 0)] : Array Value).toList = ((pairs d).take (t + 1)).map U := by
      rw [List.take_succ_eq_append_getElem (by omega), List.getD_eq_getElem?_getD, List.getElem?_eq_getElem (by omega), List.map_append]
      rfl
    rw [e] at o8
    exact own_stp0 o8 hw9.stp
  · obtain rfl : t = 32 := by omega
    rw [List.take_of_length_le (by omega)] at o5
    have hw : ∀ {w : World}, KnownV X w5 [] (kb135_0 b0 b1 (BA d)) w → cLW.rd w v (pairs d) := fun hw => ⟨by
      have := (own_slAt o5).stp0 hw.stp
      rw [hpl]
      have e : (pairs d).flatMap encU1 = (pairs d).map U := by
        generalize pairs d = q
        induction q with
        | nil => rfl
        | cons a r ih => simp [encU1, ih]
      rw [e]; exact this, pairs_lt (n := 32) hd hlt⟩
    refine call_W hX hS (T := Trw) (f := 101) rfl (pairs d, ()) (fun w hk => ⟨⟨_, _, rfl, hw hk, rfl⟩, trivial⟩) fun v w7 w7' hw7 k7 s7 su7 hv => ?_
    obtain rfl := hv
    dsimp only
    rw [ask_aggS, ask_selS0, ask_selS1, ask_selS2, ask_selS3]
    refine hR _ _ _ _ fun w hw => ?_
    rw [num16_pairs 32 d hd]
    rfl
#print axioms keepsRwide
end Go.Vc
