import Derived.Test.YtpfidanjeacihaaGreatDoorDSha7
/-
  SHA-512 of the document: Hash, Joined, Sum.
-/
namespace Go.Vc
open Go Go.Proofs Go.RowKit

theorem Stp.wid {u w : World} (h : Stp [] u w) (ex : List Nat) : Stp ex u w := ⟨h.size, fun b hb _ => h.past b hb List.not_mem_nil⟩
/-- As many bytes as a list may hold. -/
def mxB : Nat := 2 ^ 46
theorem oneMapB (l : List Nat) : ∀ c ∈ l.map B, c.oneCell' = true := fun c hc => by obtain ⟨y, _, rfl⟩ := List.mem_map.1 hc; rfl
theorem zl_lt (n : Nat) : zl n < 128 := Nat.mod_lt _ (by decide)
theorem zl_at {n z : Nat} (hz : z ≤ zl n) : (n + 1 + z) % 128 = 112 ↔ z = zl n := by unfold zl at *; omega
theorem pad_q (l : List Nat) : (pad l).length = 128 * ((pad l).length / 128) := by rw [pad_len]; unfold zl; omega
theorem pad_lt {l : List Nat} (h : ∀ x ∈ l, x < 256) : ∀ x ∈ pad l, x < 256 := fun x hx => by
  simp only [pad, List.mem_append, List.mem_cons, List.mem_replicate] at hx
  rcases hx with ((hx | rfl | ⟨_, rfl⟩) | hx) | hx
  · exact h x hx
  · decide
  · decide
  · exact be8_lt _ x hx
  · exact be8_lt _ x hx
theorem blk_lt (p : List Nat) : ∀ j, ∀ x ∈ blk p j, x < B64
  | 0 => by show ∀ x ∈ IV, x < B64; decide
  | _ + 1 => cpr_lt
/-- Bytes in an array. -/
theorem own_bs {w : World} {base n : Nat} {v : Value} {l : List Nat} (h : w.ownsRow base 5 1 v n (l.map B)) (hl : ∀ x ∈ l, x < 256) : Bs w v l ∧ n = l.length := by
  have hn : n = l.length := by have := h.1; simp at this; omega
  subst hn
  exact ⟨⟨own_slAt h, hl⟩, rfl⟩
theorem len_own {w : World} {base e n : Nat} {v : Value} {xs : List Value} (h : w.ownsRow base e 1 v n xs) : lenV v = n := lenV_of (own_slAt h)

/-! ### Hash -/
def ann111 : Ann := ⟨[(3, ([3], [])), (9, ([5], [1])), (14, ([7], [0, 1, 2])), (18, ([9], [2]))], [], 70, [(142, false), (143, false)], [2, 4, 6], none, [], []⟩
def kb111_0 (b0 : Nat) (x2 : Value) : List KB := [⟨b0, true, 116, (aggArr x2)⟩]
def kb111_1 (b0 b1 : Nat) (x2 x20 : Value) : List KB := [⟨b0, true, 116, (aggArr x2)⟩, ⟨b1, true, 165, (aggArr x20)⟩]
def kb111_2 (b0 b1 : Nat) (x2 x22 : Value) : List KB := [⟨b0, true, 116, (aggArr x2)⟩, ⟨b1, true, 165, (aggArr x22)⟩]
def kb111_3 (b0 b1 b2 : Nat) (x2 x22 x26 : Value) : List KB := [⟨b0, true, 116, (aggArr x2)⟩, ⟨b1, true, 165, (aggArr x22)⟩, ⟨b2, true, 116, (aggArr x26)⟩]
def kb111_4 (b0 b1 b2 : Nat) (x28 x29 x30 : Value) : List KB := [⟨b0, true, 116, (aggArr x28)⟩, ⟨b1, true, 165, (aggArr x29)⟩, ⟨b2, true, 116, (aggArr x30)⟩]
theorem vc111 (X : Ctx) (β : Nat → Nat) (x0 : Value) : (run Tryz.prog ann111 111 [.x (.v 0)] [] [] 2).den X (env0 [x0] X.w0) 2 β 0 (fun _ _ _ => False) = (
  Ask (rAgg 64 (.agg #[(.int .u8 0), (.int .u8 0), (.int .u8 0), (.int .u8 0), (.int .u8 0), (.int .u8 0), (.int .u8 0), (.int .u8 0), (.int .u8 0), (.int .u8 0), (.int .u8 0), (.int .u8 0), (.int .u8 0), (.int .u8 0), (.int .u8 0), (.int .u8 0), (.int .u8 0), (.int .u8 0), (.int .u8 0), (.int .u8 0), (.int .u8 0), (.int .u8 0), (.int .u8 0), (.int .u8 0), (.int .u8 0), (.int .u8 0), (.int .u8 0), (.int .u8 0), (.int .u8 0), (.int .u8 0), (.int .u8 0), (.int .u8 0), (.int .u8 0), (.int .u8 0), (.int .u8 0), (.int .u8 0), (.int .u8 0), (.int .u8 0), (.int .u8 0), (.int .u8 0), (.int .u8 0), (.int .u8 0), (.int .u8 0), (.int .u8 0), (.int .u8 0), (.int .u8 0), (.int .u8 0), (.int .u8 0), (.int .u8 0), (.int .u8 0), (.int .u8 0), (.int .u8 0), (.int .u8 0), (.int .u8 0), (.int .u8 0), (.int .u8 0), (.int .u8 0), (.int .u8 0), (.int .u8 0), (.int .u8 0), (.int .u8 0), (.int .u8 0), (.int .u8 0), (.int .u8 0)])) fun x2 =>
  AskNew X.w0 fun b0 =>
  AskO X X.w0 [] (kb111_0 b0 x2) true (appOp (.const (.slice none 0 0)) (.tmp 10) 114) 114 [(10, x0)] fun x3 w3 =>
  AskO X w3 [] (kb111_0 b0 x2) false (Go.Op.buildSlice 114 1 #[(0, Go.Operand.const (Go.Value.int Go.IntKind.u8 128))]) 114 [] fun x4 w4 =>
  AskO X w4 [] (kb111_0 b0 x2) true (appOp (.tmp 12) (.tmp 13) 114) 114 [(12, x3), (13, x4)] fun x5 w5 =>
  ∃ (I0 : List Value → World → Prop) (μ0 : List Value → World → Nat), (∀ w, KnownV X w5 [] (kb111_0 b0 x2) w → I0 [x5] w) ∧ ∀ x6 w7, I0 [x6] w7 →
    Ask (rLen X.P 114 x6) fun x8 =>
    Ask (rBin X.P .rem 3 false true x8 (J 128)) fun x9 =>
    Ask (rBin X.P .neq 3 false true x9 (J 112)) fun x10 =>
    (∃ t, x10 = .bool t) ∧ (x10 = .bool true →
      AskO X w7 [] (kb111_0 b0 x2) false (Go.Op.buildSlice 114 1 #[(0, Go.Operand.const (Go.Value.int Go.IntKind.u8 0))]) 114 [] fun x11 w11 =>
      AskO X w11 [] (kb111_0 b0 x2) true (appOp (.tmp 19) (.tmp 20) 114) 114 [(19, x6), (20, x11)] fun x12 w12 =>
      Again X w12 [] [] fun w => I0 [x12] w ∧ μ0 [x12] w < μ0 [x6] w7) ∧ (x10 = .bool false →
      AskW X w7 [] (kb111_0 b0 x2) false 142 [(U 0), (J 8)] fun x11 w11 =>
      AskO X w11 [] (kb111_0 b0 x2) true (appOp (.tmp 22) (.tmp 23) 114) 114 [(22, x6), (23, x11)] fun x12 w12 =>
      Ask (rLen X.P 114 x0) fun x13 =>
      Ask (rConv X.P 3 23 x13) fun x14 =>
      Ask (rBin X.P .mul 23 true false (U 8) x14) fun x15 =>
      AskW X w12 [] (kb111_0 b0 x2) false 142 [x15, (J 8)] fun x16 w16 =>
      AskO X w16 [] (kb111_0 b0 x2) true (appOp (.tmp 25) (.tmp 30) 114) 114 [(25, x12), (30, x16)] fun x17 w17 =>
      Ask (rLoad X w17 [] 165 (.pointer (some ⟨4, 0, none⟩))) fun x18 =>
      Ask (rAgg 8 (.agg #[(U 0), (U 0), (U 0), (U 0), (U 0), (U 0), (U 0), (U 0)])) fun _ =>
      AskNew w17 fun b1 =>
      Ask (rAgg 8 x18) fun x20 =>
      ∃ (I0 : List Value → World → Prop) (μ0 : List Value → World → Nat), (∀ w, KnownV X w17 [b1] (kb111_1 b0 b1 x2 x20) w → I0 [(J 0), x20] w) ∧ ∀ x21 x22 w23, I0 [x21, x22] w23 →
        Ask (rLen X.P 114 x17) fun x24 =>
        Ask (rBin X.P .lss 3 false false x21 x24) fun x25 =>
        (∃ t, x25 = .bool t) ∧ (x25 = .bool true →
          AskW X w23 [] (kb111_2 b0 b1 x2 x22) false 143 [x22, x17, x21] fun x26 w26 =>
          Ask (rAgg 8 x26) fun x27 =>
          Ask (rBin X.P .add 3 false true x21 (J 128)) fun x28 =>
          Again X w26 [b1] [] fun w => I0 [x28, x27] w ∧ μ0 [x28, x27] w < μ0 [x21, x22] w23) ∧ (x25 = .bool false →
          Ask (rAgg 64 (.agg #[(.int .u8 0), (.int .u8 0), (.int .u8 0), (.int .u8 0), (.int .u8 0), (.int .u8 0), (.int .u8 0), (.int .u8 0), (.int .u8 0), (.int .u8 0), (.int .u8 0), (.int .u8 0), (.int .u8 0), (.int .u8 0), (.int .u8 0), (.int .u8 0), (.int .u8 0), (.int .u8 0), (.int .u8 0), (.int .u8 0), (.int .u8 0), (.int .u8 0), (.int .u8 0), (.int .u8 0), (.int .u8 0), (.int .u8 0), (.int .u8 0), (.int .u8 0), (.int .u8 0), (.int .u8 0), (.int .u8 0), (.int .u8 0), (.int .u8 0), (.int .u8 0), (.int .u8 0), (.int .u8 0), (.int .u8 0), (.int .u8 0), (.int .u8 0), (.int .u8 0), (.int .u8 0), (.int .u8 0), (.int .u8 0), (.int .u8 0), (.int .u8 0), (.int .u8 0), (.int .u8 0), (.int .u8 0), (.int .u8 0), (.int .u8 0), (.int .u8 0), (.int .u8 0), (.int .u8 0), (.int .u8 0), (.int .u8 0), (.int .u8 0), (.int .u8 0), (.int .u8 0), (.int .u8 0), (.int .u8 0), (.int .u8 0), (.int .u8 0), (.int .u8 0), (.int .u8 0)])) fun x26 =>
          AskNew w23 fun b2 =>
          ∃ (I0 : List Value → World → Prop) (μ0 : List Value → World → Nat), (∀ w, KnownV X w23 [] (kb111_3 b0 b1 b2 x2 x22 x26) w → I0 [(J 0), x2, x22, x26] w) ∧ ∀ x27 x28 x29 x30 w31, I0 [x27, x28, x29, x30] w31 →
            Ask (rBin X.P .lss 3 false true x27 (J 8)) fun x32 =>
            (∃ t, x32 = .bool t) ∧ (x32 = .bool true →
              Ask (rIx 8 x27) fun x33 =>
              Ask (rSel (aggArr x29) (0 + intNat x33 * 1) 1 false) fun x34 =>
              AskW X w31 [] (kb111_4 b0 b1 b2 x28 x29 x30) false 142 [x34, (J 8)] fun x35 w35 =>
              ∃ (I1 : List Value → World → Prop) (μ1 : List Value → World → Nat), (∀ w, KnownV X w35 [] (kb111_4 b0 b1 b2 x28 x29 x30) w → I1 [(J 0), x30] w) ∧ ∀ x36 x37 w38, I1 [x36, x37] w38 →
                Ask (rBin X.P .lss 3 false true x36 (J 8)) fun x39 =>
                (∃ t, x39 = .bool t) ∧ (x39 = .bool true →
                  Ask (rBin X.P .mul 3 true false (J 8) x27) fun x40 =>
                  Ask (rBin X.P .add 3 false false x40 x36) fun x41 =>
                  Ask (rIad X.P 114 x35 x36) fun x42 =>
                  Ask (rLoad X w38 [] 5 x42) fun x43 =>
                  Ask (rIx 64 x41) fun x44 =>
                  Ask (rUpd (aggArr x37) (0 + intNat x44 * 1) 1 x43) fun x45 =>
                  Ask (rBin X.P .add 3 false true x36 (J 1)) fun x46 =>
                  Again X w38 [b2] [] fun w => I1 [x46, x45] w ∧ μ1 [x46, x45] w < μ1 [x36, x37] w38) ∧ (x39 = .bool false →
                  Ask (rBin X.P .add 3 false true x27 (J 1)) fun x40 =>
                  Again X w38 [] [] fun w => I0 [x40, x28, x29, x37] w ∧ μ0 [x40, x28, x29, x37] w < μ0 [x27, x28, x29, x30] w31)) ∧ (x32 = .bool false →
              Ask (rAgg 64 x30) fun x33 =>
              Ret X w31 [b0] [] x33)))) := by kernel_rfl
def Trh : Table := (T0.add 142 cNumr).add 143 cRtake
theorem keepTrh : AllKeep Tryz.prog GH Trh := (keepH0.add keepsNumr).add keepsRtake
def cHash : Contract := fnW (Cods.cons cBs Cods.nil) (fun p _ => p.1.length ≤ mxB) (fun p _ v _ => v = BA (sha p.1))
theorem keepsHash : Keeps1 Tryz.prog GH 111 cHash := by
  refine keepsW (T := Trh) (A := ann111) hMix keepTrh hGH (calls_of (by kernel_rfl)) (callsW_of (by kernel_rfl)) fun args ⟨l, _⟩ w0 hrd hpre hg => ?_
  obtain ⟨x, _, rfl, hx, rfl⟩ := hrd
  dsimp only at hx hpre
  replace hx := bs_rd.1 hx
  simp only [mxB] at hpre
  have hzl := zl_lt l.length
  refine ⟨[.x (.v 0)], [], [], 2, env0 [x] w0, fun b => b, 0, rfl, rfl, fun X hX => mem_none hX rfl, fun X hP hS hw hX hR => ?_⟩
  subst hw; try dsimp only at hR
  rw [vc111 X]
  rw [zeros64]
  refine a_aggB (by simp) ?_
  intro b0 hb0
  refine a_append hX hP tyB (v := .slice none 0 0) (x := x) rfl rfl rfl (by decide) (Nat.le_refl _) (Nat.le_refl _) (World.ownsRow_nil _ _ _ _) (fun w hw => hx.at_.stp0 hw.stp) (by simp) (oneMapB l) (fun _ h => by cases h) (fun _ _ _ h => by cases h)
    (by simp only [maxLen]; omega) (by omega) fun x3 w w3 hw k3 s3 su3 o3 hbl3 => ?_
  rw [List.nil_append, Nat.zero_add] at o3
  refine a_push #[B 128] hX hP tyB rfl rfl (by decide) (by decide) (by decide) (by kernel_rfl) rfl (by simp [B, Value.oneCell']) rfl (Nat.le_refl _) k3.sz0 o3 (by simp only [maxLen]; omega) (by omega) fun x5 w5 k5 s5 o5 _ => ?_
  have e5 : l.map B ++ (#[B 128] : Array Value).toList = (l ++ 128 :: List.replicate 0 0).map B := by simp
  rw [e5] at o5
  refine ⟨fun a w => ∃ v z, a = [v] ∧ z ≤ zl l.length ∧ w.ownsRow X.w0.heap.size 5 1 v (l.length + 1 + z) ((l ++ 128 :: List.replicate z 0).map B) ∧ Kn X w, fun a _ => match a with | [v] => l.length + 1 + zl l.length - lenV v | _ => 0,
    fun w hw => ⟨x5, 0, rfl, Nat.zero_le _, own_stp0 o5 hw.stp, hw.kn⟩, ?_⟩
  rintro v w7 ⟨v0, z, he, hz, o7, k7⟩
  simp only [List.cons.injEq, and_true] at he
  subst he
  refine a_len hP tyB (own_slAt o7) ?_
  rw [ask_remN (by decide), ask_neqN]
  refine a_ifN (fun hne => ?_) fun heq => ?_
  · have hzlt : z < zl l.length := by
      rcases Nat.lt_or_ge z (zl l.length) with h | h
      · exact h
      · exact absurd ((zl_at hz).2 (by omega)) hne
    refine a_push #[B 0] hX hP tyB rfl rfl (by decide) (by decide) (by decide) (by kernel_rfl) rfl (by simp [B, Value.oneCell']) rfl (Nat.le_refl _) k7.sz0 o7 (by simp only [maxLen]; omega) (by omega) fun x8 w8 k8 s8 o8 _ => ?_
    have e8 : (l ++ 128 :: List.replicate z 0).map B ++ (#[B 0] : Array Value).toList = (l ++ 128 :: List.replicate (z + 1) 0).map B := by
      rw [List.replicate_succ']; simp
    rw [e8] at o8
    intro w9 hw9
    exact ⟨⟨x8, z + 1, rfl, hzlt, own_stp0 o8 hw9.stp, hw9.kn⟩, by dsimp only; rw [len_own o8, len_own o7]; omega⟩
  obtain rfl := (zl_at hz).1 heq
  refine call_W hX hS (T := Trh) (f := 142) rfl (0, 8, ()) (fun w hw => ⟨⟨_, _, rfl, rfl, _, _, rfl, rfl, rfl⟩, rfl⟩) fun x11 w10 w11 hw10 k11 s11 su11 o11 => ?_
  dsimp only at o11
  have o7' := own_stp0 o7 su11
  refine a_append hX hP tyB rfl rfl rfl (by decide) (Nat.le_refl _) k11.sz0 o7' (fun w hw => (own_slAt o11).stp0 hw.stp) (by simp [be8_len]) (oneMapB _) (fun _ _ => List.not_mem_nil) (fun w2 hw2 => own_not_kb hw2 (own_stp0 o7' hw2.stp) rfl)
    (by simp only [maxLen]; omega) (by omega) fun x12 w12 w12' hw12 k12 s12 su12 o12 _ => ?_
  rw [← List.map_append] at o12
  refine a_len hP tyB hx.at_ ?_
  rw [hP, ask_j2u (by simp only [B64]; omega), ← hP, ask_umul, Nat.mul_comm 8]
  refine call_W hX hS (T := Trh) (f := 142) rfl (l.length * 8 % B64, 8, ()) (fun w hw => ⟨⟨_, _, rfl, rfl, _, _, rfl, rfl, rfl⟩, rfl⟩) fun x16 w15 w16 hw15 k16 s16 su16 o16 => ?_
  dsimp only at o16
  have o12' := own_stp0 o12 su16
  refine a_append hX hP tyB rfl rfl rfl (by decide) (Nat.le_refl _) k16.sz0 o12' (fun w hw => (own_slAt o16).stp0 hw.stp) (by simp [be8_len]) (oneMapB _) (fun _ _ => List.not_mem_nil) (fun w2 hw2 => own_not_kb hw2 (own_stp0 o12' hw2.stp) rfl)
    (by simp only [maxLen]; omega) (by omega) fun x17 w17 w17' hw17 k17 s17 su17 o17 _ => ?_
  rw [← List.map_append] at o17
  have ep : (l ++ 128 :: List.replicate (zl l.length) 0) ++ be8 0 ++ be8 (l.length * 8 % B64) = pad l := rfl
  rw [ep] at o17
  obtain ⟨hp, hpl⟩ := own_bs o17 (pad_lt hx.lt)
  rw [hpl] at o17
  have hi2 := hg.i2.stp (k17.stp0 hX) List.not_mem_nil
  rw [ask_load_agg (cs := IV.map U) (hP ▸ aggW8) (by rw [hP, szW8]; rfl) hi2.lt List.not_mem_nil (fun j c hj => by rw [(getU hj).2, Nat.zero_add]; exact hi2.at_ j (getU hj).1) k17.some]
  have foldU : Value.agg (IV.map U).toArray = UA IV := rfl
  rw [foldU, zeros8]
  refine a_aggU rfl ?_
  intro b1 hb1
  refine a_aggU rfl ?_
  have hq := pad_q l
  have hpp := pad_len l
  refine ⟨fun a w => ∃ j, a = [J (128 * j), UA (blk (pad l) j)] ∧ j ≤ (pad l).length / 128 ∧ Kn X w ∧ Stp [b1] w17' w, fun a _ => match a with | [i, _] => (pad l).length - intNat i | _ => 0,
    fun w hw => ⟨0, rfl, Nat.zero_le _, hw.kn, hw.stp⟩, ?_⟩
  rintro _ _ w23 ⟨j, he, hj, k23, s23⟩
  simp only [List.cons.injEq, and_true] at he
  obtain ⟨rfl, rfl⟩ := he
  have o23 := own_stp o17 s23 (own_off o17 (all1 hb1))
  obtain ⟨hp23, _⟩ := own_bs o23 (pad_lt hx.lt)
  refine a_len hP tyB hp23.at_ ?_
  rw [ask_lssN]
  refine a_ifD (fun hlt => ?_) fun hge => ?_
  · refine call_W hX hS (T := Trh) (f := 143) rfl (blk (pad l) j, pad l, 128 * j, ()) (fun w hw => ⟨⟨_, _, rfl, ⟨rfl, blk_len _ _, blk_lt _ _⟩, _, _, rfl, bs_rd.2 (hp23.stp0 hw.stp), _, _, rfl, rfl, rfl⟩, by dsimp only; omega⟩) fun v w25 w26 hw25 k26 s26 su26 hv => ?_
    obtain rfl := hv
    dsimp only
    refine a_aggU (cpr_len (blk_len _ _)) ?_
    rw [ask_addN (by omega)]
    intro w27 hw27
    refine ⟨⟨j + 1, ?_, by omega, hw27.kn, ?_⟩, by simp [intNat]; omega⟩
    · rw [show 128 * j + 128 = 128 * (j + 1) by omega]; rfl
    · have := (s23.trans su26).trans hw27.stp
      exact ⟨this.size, fun b hb hn => this.past b hb (by simpa using hn)⟩
  obtain rfl : j = (pad l).length / 128 := by omega
  refine a_aggB (by simp) ?_
  intro b2 hb2
  generalize hDe : blk (pad l) ((pad l).length / 128) = hD
  have h8 : hD.length = 8 := by rw [← hDe]; exact blk_len _ _
  have hdl := dig_len h8
  refine ⟨fun a w => ∃ i y, a = [J i, y, UA hD, BA ((dig hD).take (8 * i) ++ List.replicate (64 - 8 * i) 0)] ∧ i ≤ 8 ∧ Kn X w, fun a _ => match a with | [i, _, _, _] => 8 - intNat i | _ => 0,
    fun w hw => ⟨0, _, rfl, Nat.zero_le _, hw.kn⟩, ?_⟩
  rintro _ _ _ _ w31 ⟨i, y, he, hi, k31⟩
  simp only [List.cons.injEq, and_true] at he
  obtain ⟨rfl, rfl, rfl, rfl⟩ := he
  rw [ask_lssN]
  refine a_ifD (fun hlt => ?_) fun hge => ?_
  · rw [ask_ixN hlt]
    refine a_selU (k := i) (by rw [intNatJ]; omega) (by omega) ?_
    refine call_W hX hS (T := Trh) (f := 142) rfl (hD.getD i 0, 8, ()) (fun w hw => ⟨⟨_, _, rfl, rfl, _, _, rfl, rfl, rfl⟩, rfl⟩) fun x35 w34 w35 hw34 k35 s35 su35 o35 => ?_
    dsimp only at o35
    refine ⟨fun a w => ∃ j, a = [J j, BA ((dig hD).take (8 * i + j) ++ List.replicate (64 - (8 * i + j)) 0)] ∧ j ≤ 8 ∧ Kn X w ∧ Stp [b2] w35 w, fun a _ => match a with | [i, _] => 8 - intNat i | _ => 0,
      fun w hw => ⟨0, rfl, Nat.zero_le _, hw.kn, hw.stp.wid _⟩, ?_⟩
    rintro _ _ w38 ⟨j, he, hj, k38, s38⟩
    simp only [List.cons.injEq, and_true] at he
    obtain ⟨rfl, rfl⟩ := he
    rw [ask_lssN]
    refine a_ifD (fun hlt2 => ?_) fun hge2 => ?_
    · rw [ask_mulN (by omega), ask_addN (by omega)]
      have lo2 : b2 < w34.heap.size := hw34.low (by simp [kb111_4])
      have o38 := own_stp o35 s38 (off_own o35 (all1 lo2))
      refine a_iadN hP tyB (own_slAt o38) hlt2 ?_
      refine a_load_one (c := B ((dig hD).getD (8 * i + j) 0)) k38 (own_slAt o38) (hP ▸ aggU8) (fun _ _ => List.not_mem_nil) (by rw [Nat.mul_one, dig_at (by omega) hlt2]; simp [be8, hlt2]) ?_
      rw [ask_ixN (by omega)]
      refine a_updBA (k := 8 * i + j) (by rw [intNatJ]; omega) (by simp [hdl]; omega) ?_
      rw [ask_succ (by omega)]
      intro w2 hw2
      refine ⟨⟨j + 1, ?_, hlt2, hw2.kn, ?_⟩, by simp [intNat]; omega⟩
      · rw [show 64 - (8 * i + j) = 64 - (8 * i + (j + 1)) + 1 by omega, out_set (by omega)]
        rfl
      · have := s38.trans hw2.stp
        exact ⟨this.size, fun b hb hn => this.past b hb (by simpa using hn)⟩
    · obtain rfl : j = 8 := by omega
      rw [ask_succ (by omega)]
      intro w2 hw2
      exact ⟨⟨i + 1, _, rfl, hlt, hw2.kn⟩, by simp [intNat]; omega⟩
  obtain rfl : i = 8 := by omega
  rw [List.take_of_length_le (by omega), show 64 - 8 * 8 = 0 from rfl, List.replicate_zero, List.append_nil]
  refine a_aggB hdl ?_
  refine hR _ _ _ _ fun w hw => ?_
  unfold sha
  rw [hDe]
#print axioms keepsHash
end Go.Vc

/-
  SHA-512 of the document: Joined, Sum.
-/
namespace Go.Vc
open Go Go.Proofs Go.RowKit

def ann112 : Ann := ⟨[(3, ([3, 4], []))], [], 70, [], [], none, [], []⟩
theorem vc112 (X : Ctx) (β : Nat → Nat) (x0 : Value) : (run Tryz.prog ann112 112 [.x (.v 0)] [] [] 2).den X (env0 [x0] X.w0) 2 β 0 (fun _ _ _ => False) = (
  ∃ (I0 : List Value → World → Prop) (μ0 : List Value → World → Nat), (∀ w, KnownV X X.w0 [] [] w → I0 [(.slice none 0 0), (J 0)] w) ∧ ∀ x2 x3 w4, I0 [x2, x3] w4 →
    Ask (rLen X.P 115 x0) fun x5 =>
    Ask (rBin X.P .lss 3 false false x3 x5) fun x6 =>
    (∃ t, x6 = .bool t) ∧ (x6 = .bool true →
      Ask (rIad X.P 115 x0 x3) fun x7 =>
      Ask (rLoad X w4 [] 114 x7) fun x8 =>
      AskO X w4 [] [] true (appOp (.tmp 11) (.tmp 15) 114) 114 [(11, x2), (15, x8)] fun x9 w9 =>
      Ask (rBin X.P .add 3 false true x3 (J 1)) fun x10 =>
      Again X w9 [] [] fun w => I0 [x9, x10] w ∧ μ0 [x9, x10] w < μ0 [x2, x3] w4) ∧ (x6 = .bool false →
      Ret X w4 [] [] x2)) := by kernel_rfl
def cJoin : Contract := fnW (Cods.cons cBss Cods.nil) (fun p _ => p.1.flatten.length ≤ mxB) (fun p w v w' => w'.ownsRow w.heap.size 5 1 v p.1.flatten.length (p.1.flatten.map B) ∧ ∀ x ∈ p.1.flatten, x < 256)
theorem Bss.flat {w : World} {v : Value} {vs : List Value} {l : List (List Nat)} (h : Bss w v vs l) : ∀ x ∈ l.flatten, x < 256 := fun x hx => by
  obtain ⟨a, ha, hxa⟩ := List.mem_flatten.1 hx
  obtain ⟨i, hi⟩ := List.getElem?_of_mem ha
  have hl : i < vs.length := by rw [h.len]; exact (List.getElem?_eq_some_iff.1 hi).1
  exact (h.all i _ _ (List.getElem?_eq_getElem hl) hi).lt x hxa
theorem keepsJoin : Keeps1 Tryz.prog GH 112 cJoin := by
  refine keepsW (T := TN) (A := ann112) hMix keepTN hGH (calls_of (by kernel_rfl)) (callsW_of (by kernel_rfl)) fun args ⟨l, _⟩ w0 hrd hpre hg => ?_
  obtain ⟨x, _, rfl, hx, rfl⟩ := hrd
  dsimp only at hx hpre
  simp only [mxB] at hpre
  obtain ⟨vs, hx⟩ := bss_rd.1 hx
  have hmx := slAt_max hx.at_
  simp only [maxLen] at hmx
  refine ⟨[.x (.v 0)], [], [], 2, env0 [x] w0, fun b => b, 0, rfl, rfl, fun X hX => mem_none hX rfl, fun X hP hS hw hX hR => ?_⟩
  subst hw; try dsimp only at hR
  rw [vc112 X]
  refine ⟨fun a w => ∃ v i, a = [v, J i] ∧ i ≤ l.length ∧ w.ownsRow X.w0.heap.size 5 1 v (l.take i).flatten.length ((l.take i).flatten.map B) ∧ Kn X w, fun a _ => match a with | [_, i] => l.length - intNat i | _ => 0,
    fun w hw => ⟨_, 0, rfl, Nat.zero_le _, World.ownsRow_nil _ _ _ _, hw.kn⟩, ?_⟩
  rintro v _ w4 ⟨v0, i, he, hi, o4, k4⟩
  simp only [List.cons.injEq, and_true] at he
  obtain ⟨rfl, rfl⟩ := he
  refine a_len hP tyBB hx.at_ ?_
  rw [ask_lssN]
  refine a_ifD (fun hlt => ?_) fun hge => ?_
  · have hx4 := hx.stp0 (k4.stp0 hX)
    refine a_iadN hP tyBB hx4.at_ hlt ?_
    have hvl : i < vs.length := by rw [hx.len]; exact hlt
    refine a_load_one (c := vs[i]) k4 hx4.at_ (hP ▸ aggSl) (fun _ _ => List.not_mem_nil) (by rw [Nat.mul_one]; exact List.getElem?_eq_getElem hvl) ?_
    have hy := hx4.all i _ _ (List.getElem?_eq_getElem hvl) (List.getElem?_eq_getElem hlt)
    have hle := fl_le l (i + 1)
    rw [fl_take hlt, List.length_append] at hle
    refine a_append hX hP tyB rfl rfl rfl (by decide) (Nat.le_refl _) k4.sz0 o4 (fun w hw => hy.at_.stp0 hw.stp) (by simp) (oneMapB _) (fun _ _ => List.not_mem_nil) (fun w2 hw2 => own_not_kb hw2 (own_stp0 o4 hw2.stp) rfl)
      (by simp only [maxLen]; omega) (by omega) fun x9 w9 w9' hw9 k9 s9 su9 o9 _ => ?_
    rw [ask_succ (by omega)]
    intro w10 hw10
    refine ⟨⟨x9, i + 1, rfl, hlt, ?_, hw10.kn⟩, by simp [intNat]; omega⟩
    rw [fl_take hlt, List.length_append, List.map_append]
    exact own_stp0 o9 hw10.stp
  · obtain rfl : i = l.length := by omega
    rw [List.take_length] at o4
    exact hR _ _ _ _ fun w hw => ⟨own_stp0 o4 hw.stp, hx.flat⟩

def ann60 : Ann := ⟨[], [], 70, [(111, false), (112, false)], [], none, [], []⟩
def kb60_0 (b0 : Nat) : List KB := [⟨b0, true, 116, #[(.int .u8 0), (.int .u8 0), (.int .u8 0), (.int .u8 0), (.int .u8 0), (.int .u8 0), (.int .u8 0), (.int .u8 0), (.int .u8 0), (.int .u8 0), (.int .u8 0), (.int .u8 0), (.int .u8 0), (.int .u8 0), (.int .u8 0), (.int .u8 0), (.int .u8 0), (.int .u8 0), (.int .u8 0), (.int .u8 0), (.int .u8 0), (.int .u8 0), (.int .u8 0), (.int .u8 0), (.int .u8 0), (.int .u8 0), (.int .u8 0), (.int .u8 0), (.int .u8 0), (.int .u8 0), (.int .u8 0), (.int .u8 0), (.int .u8 0), (.int .u8 0), (.int .u8 0), (.int .u8 0), (.int .u8 0), (.int .u8 0), (.int .u8 0), (.int .u8 0), (.int .u8 0), (.int .u8 0), (.int .u8 0), (.int .u8 0), (.int .u8 0), (.int .u8 0), (.int .u8 0), (.int .u8 0), (.int .u8 0), (.int .u8 0), (.int .u8 0), (.int .u8 0), (.int .u8 0), (.int .u8 0), (.int .u8 0), (.int .u8 0), (.int .u8 0), (.int .u8 0), (.int .u8 0), (.int .u8 0), (.int .u8 0), (.int .u8 0), (.int .u8 0), (.int .u8 0)]⟩]
theorem vc60 (X : Ctx) (β : Nat → Nat) (x0 : Value) : (run Tryz.prog ann60 60 [.x (.v 0)] [] [] 2).den X (env0 [x0] X.w0) 2 β 0 (fun _ _ _ => False) = (
  AskNew X.w0 fun b0 =>
  AskW X X.w0 [] (kb60_0 b0) false 112 [x0] fun x2 w2 =>
  AskW X w2 [] (kb60_0 b0) false 111 [x2] fun x3 w3 =>
  Ask (rAgg 64 x3) fun x4 =>
  Ret X w3 [b0] [] x4) := by kernel_rfl
def Trs : Table := (T0.add 112 cJoin).add 111 cHash
theorem keepTrs : AllKeep Tryz.prog GH Trs := (keepH0.add keepsJoin).add keepsHash
def cRsum : Contract := fnW (Cods.cons cBss Cods.nil) (fun p _ => p.1.flatten.length ≤ mxB) (fun p _ v _ => v = BA (sha p.1.flatten))
theorem keepsRsum : Keeps1 Tryz.prog GH 60 cRsum := by
  refine keepsW (T := Trs) (A := ann60) hMix keepTrs hGH (calls_of (by kernel_rfl)) (callsW_of (by kernel_rfl)) fun args ⟨l, _⟩ w0 hrd hpre hg => ?_
  obtain ⟨x, _, rfl, hx, rfl⟩ := hrd
  dsimp only at hx hpre
  refine ⟨[.x (.v 0)], [], [], 2, env0 [x] w0, fun b => b, 0, rfl, rfl, fun X hX => mem_none hX rfl, fun X hP hS hw hX hR => ?_⟩
  subst hw; try dsimp only at hR
  rw [vc60 X]
  intro b0 hb0
  refine call_W hX hS (T := Trs) (f := 112) rfl (l, ()) (fun w hw => ⟨⟨_, _, rfl, by obtain ⟨vs, h⟩ := bss_rd.1 hx; exact bss_rd.2 ⟨vs, h.stp0 hw.stp⟩, rfl⟩, hpre⟩) fun v w w' hw k' s1 s2 hv => ?_
  obtain ⟨ho, hlt⟩ := hv
  obtain ⟨hb, _⟩ := own_bs ho hlt
  refine call_W hX hS (T := Trs) (f := 111) rfl (l.flatten, ()) (fun w hw => ⟨⟨_, _, rfl, bs_rd.2 (hb.stp0 hw.stp), rfl⟩, hpre⟩) fun v w3 w3' hw3 k3 s3 su3 hv => ?_
  obtain rfl := hv
  refine a_aggB (sha_len _) ?_
  exact hR _ _ _ _ fun w hw => rfl
#print axioms keepsRsum
end Go.Vc
