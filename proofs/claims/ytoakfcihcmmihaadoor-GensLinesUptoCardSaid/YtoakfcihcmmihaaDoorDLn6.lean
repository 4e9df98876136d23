/-
  GensLines, walked.
-/
import Derived.Test.YtoakfcihcmmihaaDoorDLn5
namespace Go.Vc
open Go Go.Proofs Go.RowKit

/-! ### sets that are not there -/
theorem aggZE : Ask (rAgg 26 (.agg zEL.toArray)) = fun K => K (.agg zEL.toArray) := by
  funext K; exact ask_agg rfl (by kernel_rfl)
def cIsLine0 : Contract := fnP (fun _ : Unit => [S 0, .agg zEL.toArray]) (fun _ => True) (fun _ v => v = .bool true)
theorem keepsIsLine0 : Keeps1 Tryd.prog GT 25 cIsLine0 := by
  refine keepsP (T := Til) (A := ann25) (fun _ _ _ _ _ => rfl) hMix keepTil hGT (calls_of (by kernel_rfl)) (callsW_of (by kernel_rfl)) fun _ w0 _ _ => ⟨[.x (.v 0), .x (.v 1)], [], [], 3, env0 [S 0, .agg zEL.toArray] w0, fun b => b, 0, rfl, rfl, fun X hX => mem_none hX rfl, fun X hP hS hw hX hR => ?_⟩
  subst hw
  rw [vc25 X]
  rw [ask_aggS]; intro _ _; rw [aggZE]; intro _ _
  refine call_PE hS (T := Til) (f := 35) rfl 0 (show 0 < W256 by decide) ?_
  refine a_selL (ds := encS 0) rfl (by decide) ?_
  rw [agg_encS, ask_eqlS (hP ▸ a4R) (lm_lt _) (show 0 < W256 by decide)]
  exact hR _ _ _ _ rfl
def cZZ : Cods Unit := ⟨fun _ l _ => l = [zSetL, zRSetL], fun _ _ _ _ _ _ => rfl⟩
def cSame0 : Contract := fnW cZZ (fun _ _ => True) (fun _ _ v _ => v = .bool true)
def Ts0 : Table := T0.add 25 cIsLine0
theorem keepTs0 : AllKeep Tryd.prog GT Ts0 := keepT0.add keepsIsLine0
theorem aggZR {K : Value → Prop} (hK : K zRSetL) : Ask (rAgg 81 zRSetL) K := a_agg rfl (by kernel_rfl) hK
theorem lenNilL {X : Ctx} {K : Value → Prop} (hP : X.P = Tryd.prog) (hK : K (J 0)) : Ask (rLen X.P 27 (.slice none 0 0)) K := a_lenV hP tyL hK
theorem lenNilE {X : Ctx} {K : Value → Prop} (hP : X.P = Tryd.prog) (hK : K (J 0)) : Ask (rLen X.P 42 (.slice none 0 0)) K := a_lenV hP tyE hK
theorem keepsSame0 : Keeps1 Tryd.prog GT 22 cSame0 := by
  refine keepsW (T := Ts0) (A := ann22) hMix keepTs0 hGT (calls_of (by kernel_rfl)) (callsW_of (by kernel_rfl)) fun args _ w0 hrd hpre _ => ?_
  obtain rfl : args = _ := hrd
  refine ⟨[.x (.v 0), .x (.v 1)], [], [], 3, env0 [zSetL, zRSetL] w0, fun b => b, 0, rfl, rfl, fun X hX => mem_none hX rfl, fun X hP hS hw hX hR => ?_⟩
  subst hw; try dsimp only at hR
  rw [vc22 X]
  refine a_agg (cs := encS 0 ++ encS 0 ++ encS 0 ++ [Value.slice none 0 0, Value.slice none 0 0]) rfl (by kernel_rfl) ?_
  iterate 14 refine a_sel1 rfl ?_
  intro b0 _
  refine aggZR ?_
  intro b1 _
  have one : ∀ (K : Value → Prop), K (.bool true) → AskF X 25 [S 0, .agg zEL.toArray] K := fun K hK => call_PE hS (T := Ts0) (f := 25) rfl () trivial hK
  have fold : Value.agg #[U (lb 0 0), U (lb 0 1), U (lb 0 2), U (lb 0 3)] = S 0 := rfl
  refine lenNilL hP ?_
  refine a_sel1 (v := .slice none 0 0) rfl ?_
  refine lenNilE hP ?_
  rw [ask_neqN, decide_eq_true rfl]
  refine a_G_on (by simp [condsV]) (lenNilL hP ?_)
  refine a_G_on (by simp [condsV]) (a_sel1 (v := .slice none 0 0) rfl ?_)
  refine a_G_on (by simp [condsV]) (lenNilE hP ?_)
  refine a_G_on (by simp [condsV]) ?_
  rw [ask_neqN, decide_eq_true rfl, Bool.not_true, ask_pickF]
  refine a_G_on (by simp [condsV]) (a_selL (ds := zEL) rfl (by decide) ?_)
  rw [fold]
  refine a_GF_on (by simp [condsV]) (one _ ?_)
  refine a_G_on (by simp [condsV]) ?_
  rw [ask_not, Bool.not_true, ask_pickF]
  refine a_G_on (by simp [condsV]) (a_selL (ds := zEL) rfl (by decide) ?_)
  refine a_GF_on (by simp [condsV]) (one _ ?_)
  refine a_G_on (by simp [condsV]) ?_
  rw [ask_not, Bool.not_true, ask_pickF]
  refine a_G_on (by simp [condsV]) (a_selL (ds := zEL) rfl (by decide) ?_)
  refine a_GF_on (by simp [condsV]) (one _ ?_)
  refine a_G_on (by simp [condsV]) ?_
  rw [ask_not, Bool.not_true, ask_pickF]
  refine a_if (fun h => by cases h) fun _ => ?_
  refine ⟨fun a w => a = [.bool false, J 0] ∧ Kn X w, fun _ _ => 0, fun w hw => ⟨rfl, hw.kn⟩, ?_⟩
  rintro _ _ w ⟨he, hkn⟩
  simp only [List.cons.injEq, and_true] at he
  obtain ⟨rfl, rfl⟩ := he
  refine lenNilL hP ?_
  rw [ask_lssN]
  refine a_ifD (fun hlt => absurd hlt (by decide)) fun _ => ?_
  refine ⟨fun a w => a = [J 0] ∧ Kn X w, fun _ _ => 0, fun w hw => ⟨rfl, hw.kn⟩, ?_⟩
  rintro _ w ⟨he, hkn⟩
  simp only [List.cons.injEq, and_true] at he
  subst he
  refine lenNilL hP ?_
  rw [ask_lssN]
  exact a_ifD (fun hlt => absurd hlt (by decide)) fun _ => hR _ _ _ _ fun _ _ => rfl

/-! ### rules -/
section
variable {X : Ctx} {P : Program} {u : World} {ow : List Nat} {bl : List KB} {KW : Value → World → Prop}
theorem a_build0 {t e ty size bytes : Nat} {z : Value} (hX : Std X) (hP : X.P = P) (hT : ElTy P t e size bytes z)
    (hK : ∀ g w w', KnownV X u ow bl w → Kn X w' → Stp [] w w' → Stp ow u w' → w'.ownsRow w.heap.size e size (.slice (some ⟨g, 0, none⟩) 0 0) 0 [] → KW (.slice (some ⟨g, 0, none⟩) 0 0) w') : AskO X u ow bl false (.buildSlice t 0 #[]) ty [] KW := by
  subst hP
  obtain ⟨ie, hie, rfl, rfl, hz⟩ := hT.info
  have ht := hT.sl
  refine askE_run rfl (fun w => .slice (some ⟨w.heap.size, 0, none⟩) 0 0) (fun w => w.alloc (.cells #[] e)) (fun w _ => ⟨?_, keeps_alloc _ _ _ _⟩) fun w hw => ?_
  · have h1 : (Instr.buildSlice t 0 #[]).run X.P w = .ok (.slice (some ⟨w.heap.size, 0, none⟩) 0 0) (w.alloc (.cells #[] e)) := by
      simp [Instr.buildSlice, run_underlying ht, sizeOf, typeInfo, hie, Instr.fill, newRow]
      rw [show (Array.range 0 : Array Nat) = #[] from by simp, Array.map_empty]
    unfold execOp
    simp only [Sem.run_bind, List.map_toArray, List.map_nil, h1, Result.andThen_ok]
    rfl
  have hs : Stp [] w (w.alloc (.cells #[] e)) := ⟨by simp, fun b hb _ => heap_alloc_old w _ hb⟩
  exact hK _ w _ hw (knN hX.n hw hs (fun _ h => by cases h) rfl rfl rfl) hs (by simpa using hw.stp.trans hs) (World.ownsRow_lit w #[] 0 (Nat.le_refl _) (Nat.zero_le _) (by simp))
end
theorem ask_neqB {P : Program} {K : Value → Prop} {t : TypeId} {cx cy : Bool} {a : Nat} : Ask (rBin P .neq t cx cy (B a) (B a)) K = K (.bool false) := by unfold B; rw [ask_neq]; simp
theorem ask_eqlB {P : Program} {K : Value → Prop} {t : TypeId} {cx cy : Bool} {a : Nat} : Ask (rBin P .eql t cx cy (B a) (B a)) K = K (.bool true) := by unfold B; rw [ask_eql]; simp
theorem LSet.off {lo : Nat} {u w : World} {f : List Nat} {n : Nat} {v : Value} {ex : List Nat} (h : LSet lo u f n v) (hs : Stp ex u w) (he : ∀ b ∈ ex, u.heap.size ≤ b) : LSet lo w f n v := by
  obtain ⟨g, h, e, og, oh⟩ := h
  exact ⟨g, h, e, own_stp og hs (own_off og he), own_stp oh hs (own_off oh he)⟩
theorem RLSet.off {lo : Nat} {u w : World} {f : List Nat} {n : Nat} {v : Value} {ex : List Nat} (h : RLSet lo u f n v) (hs : Stp ex u w) (he : ∀ b ∈ ex, u.heap.size ≤ b) : RLSet lo w f n v := by
  obtain ⟨g, h, e, og, oh⟩ := h
  exact ⟨g, h, e, own_stp og hs (own_off og he), own_stp oh hs (own_off oh he)⟩

/-! ### the law -/
def ann8 : Ann := ⟨[(5, ([10], []))], [], 70, [(53, false), (54, false), (22, false)], [], none, [], []⟩
def kb8_0 (b0 : Nat) (x13 x14 x15 x16 x17 x18 x19 x20 x21 x22 x23 x24 x25 x26 : Value) : List KB := [⟨b0, true, 29, #[x13, x14, x15, x16, x17, x18, x19, x20, x21, x22, x23, x24, x25, x26]⟩]
def kb8_1 (b0 b1 : Nat) (x13 x14 x15 x16 x17 x18 x19 x20 x21 x22 x23 x24 x25 x26 x30 : Value) : List KB := [⟨b0, true, 29, #[x13, x14, x15, x16, x17, x18, x19, x20, x21, x22, x23, x24, x25, x26]⟩, ⟨b1, true, 44, (aggArr x30)⟩]
theorem vc8 (X : Ctx) (β : Nat → Nat) (x0 x1 : Value) : (run Tryd.prog ann8 8 [.x (.v 0), .x (.v 1)] [] [] 3).den X (env0 [x0, x1] X.w0) 3 β 0 (fun _ _ _ => False) = (
  AskO X X.w0 [] [] false (Go.Op.buildSlice 112 0 #[]) 112 [] fun x3 w3 =>
  AskO X w3 [] [] true (appOp (.tmp 11) (.tmp 12) 112) 112 [(11, x3), (12, x0)] fun x4 w4 =>
  AskO X w4 [] [] false (Go.Op.buildSlice 112 2 #[(0, Go.Operand.const (Go.Value.int Go.IntKind.u8 201)), (1, Go.Operand.const (Go.Value.int Go.IntKind.u8 202))]) 112 [] fun x5 w5 =>
  AskO X w5 [] [] true (appOp (.tmp 13) (.tmp 14) 112) 112 [(13, x4), (14, x5)] fun x6 w6 =>
  Ask (rLen X.P 112 x0) fun x7 =>
  Ask (rSlc X.P 112 x6 none (some x7) none) fun x8 =>
  AskW X w6 [] [] false 53 [x8, x1] fun x9 w9 =>
  Ask (rExt X.P x9 0) fun x10 =>
  Ask (rExt X.P x9 1) fun x11 =>
  AskNew w9 fun b0 =>
  Ask (rAgg 14 x10) fun x12 =>
  Ask (rSel (aggArr x12) 0 1 false) fun x13 =>
  Ask (rSel (aggArr x12) 1 1 false) fun x14 =>
  Ask (rSel (aggArr x12) 2 1 false) fun x15 =>
  Ask (rSel (aggArr x12) 3 1 false) fun x16 =>
  Ask (rSel (aggArr x12) 4 1 false) fun x17 =>
  Ask (rSel (aggArr x12) 5 1 false) fun x18 =>
  Ask (rSel (aggArr x12) 6 1 false) fun x19 =>
  Ask (rSel (aggArr x12) 7 1 false) fun x20 =>
  Ask (rSel (aggArr x12) 8 1 false) fun x21 =>
  Ask (rSel (aggArr x12) 9 1 false) fun x22 =>
  Ask (rSel (aggArr x12) 10 1 false) fun x23 =>
  Ask (rSel (aggArr x12) 11 1 false) fun x24 =>
  Ask (rSel (aggArr x12) 12 1 false) fun x25 =>
  Ask (rSel (aggArr x12) 13 1 false) fun x26 =>
  AskW X w9 [b0] (kb8_0 b0 x13 x14 x15 x16 x17 x18 x19 x20 x21 x22 x23 x24 x25 x26) false 54 [x0, x1] fun x27 w27 =>
  Ask (rExt X.P x27 0) fun x28 =>
  Ask (rExt X.P x27 1) fun x29 =>
  AskNew w27 fun b1 =>
  Ask (rAgg 81 x28) fun x30 =>
  ∃ (I0 : List Value → World → Prop) (μ0 : List Value → World → Nat), (∀ w, KnownV X w27 [b1] (kb8_1 b0 b1 x13 x14 x15 x16 x17 x18 x19 x20 x21 x22 x23 x24 x25 x26 x30) w → I0 [(J 0)] w) ∧ ∀ x31 w32, I0 [x31] w32 →
    Ask (rLen X.P 112 x0) fun x33 =>
    Ask (rBin X.P .lss 3 false false x31 x33) fun x34 =>
    (∃ t, x34 = .bool t) ∧ (x34 = .bool true →
      Ask (rIad X.P 112 x6 x31) fun x35 =>
      Ask (rLoad X w32 [] 5 x35) fun x36 =>
      Ask (rIad X.P 112 x0 x31) fun x37 =>
      Ask (rLoad X w32 [] 5 x37) fun x38 =>
      Ask (rBin X.P .neq 5 false false x36 x38) fun x39 =>
      (∃ t, x39 = .bool t) ∧ (x39 = .bool true →
        Ret X w32 [] [] (.bool false)) ∧ (x39 = .bool false →
        Ask (rBin X.P .add 3 false true x31 (J 1)) fun x40 =>
        Again X w32 [] [] fun w => I0 [x40] w ∧ μ0 [x40] w < μ0 [x31] w32)) ∧ (x34 = .bool false →
      Ask (rBin X.P .eql 65 false false x11 x29) fun x35 =>
      AskGW X [(x35, true)] w32 [] (kb8_1 b0 b1 x13 x14 x15 x16 x17 x18 x19 x20 x21 x22 x23 x24 x25 x26 x30) false 22 [(.agg #[x13, x14, x15, x16, x17, x18, x19, x20, x21, x22, x23, x24, x25, x26]), x30] fun x36 w36 =>
      Ask (rPick x35 x36 (.bool false)) fun x37 =>
      AskG [(x37, true)] (rLen X.P 112 x0) fun x38 =>
      AskG [(x37, true)] (rIad X.P 112 x6 x38) fun x39 =>
      AskG [(x37, true)] (rLoad X w36 [] 5 x39) fun x40 =>
      AskG [(x37, true)] (rBin X.P .eql 5 false true x40 (.int .u8 201)) fun x41 =>
      Ask (rPick x37 x41 (.bool false)) fun x42 =>
      AskG [(x42, true)] (rLen X.P 112 x0) fun x43 =>
      AskG [(x42, true)] (rBin X.P .add 3 false true x43 (J 1)) fun x44 =>
      AskG [(x42, true)] (rIad X.P 112 x6 x44) fun x45 =>
      AskG [(x42, true)] (rLoad X w36 [] 5 x45) fun x46 =>
      AskG [(x42, true)] (rBin X.P .eql 5 false true x46 (.int .u8 202)) fun x47 =>
      Ask (rPick x42 x47 (.bool false)) fun x48 =>
      Ret X w36 [] [] x48)) := by kernel_rfl
def TgA : Table := ((T0.add 53 cLinesG).add 54 cRLines).add 22 cSame0
theorem keepTgA : AllKeep Tryd.prog GH TgA := ((keepH0.add keepsLinesG).add keepsRLines).add (keepsSame0.inG gGT)
def TgB : Table := ((T0.add 53 cLinesG).add 54 cRLines).add 22 cSame
theorem keepTgB : AllKeep Tryd.prog GH TgB := ((keepH0.add keepsLinesG).add keepsRLines).add (keepsSameL.inG gGT)
def cGLA : Contract := fnW (Cods.cons cBs (Cods.cons cI Cods.nil)) (fun p _ => (p.2.1 < 0 ∨ 1024 < p.2.1) ∧ p.1.length ≤ mxF) (fun _ _ v _ => v = .bool true)
def cGLB : Contract := fnW (Cods.cons cBs (Cods.cons cI Cods.nil)) (fun p _ => ¬ (p.2.1 < 0 ∨ 1024 < p.2.1) ∧ p.1.length ≤ mxF) (fun _ _ v _ => v = .bool true)
theorem keepsGLA : Keeps1 Tryd.prog GH 8 cGLA := by
  refine keepsW (T := TgA) (A := ann8) hMix keepTgA hGH (calls_of (by kernel_rfl)) (callsW_of (by kernel_rfl)) fun args ⟨f, i, _⟩ w0 hrd hpre hg => ?_
  obtain ⟨x, _, rfl, hx, _, _, rfl, rfl, rfl⟩ := hrd
  dsimp only at hx hpre
  replace hx := bs_rd.1 hx
  obtain ⟨hi, hf⟩ := hpre
  have hf' := hf
  simp only [mxF] at hf'
  refine ⟨[.x (.v 0), .x (.v 1)], [], [], 3, env0 [x, .int .i64 i] w0, fun b => b, 0, rfl, rfl, fun X hX => mem_none hX rfl, fun X hP hS hw hX hR => ?_⟩
  subst hw; try dsimp only at hR
  rw [vc8 X]
  refine a_build0 hX hP tyB fun g w w3 hw k3 s3 su3 o3 => ?_
  refine a_append hX hP tyB rfl rfl rfl (by decide) hw.sz0 s3.size o3 (fun w hw => hx.at_.stp0 (hw.kn.stp0 hX)) (by simp) (oneMapB f) (fun _ _ => List.not_mem_nil) (fun _ _ _ _ => List.not_mem_nil)
    (by simp only [maxLen]; omega) (by omega) fun x4 w4 w4' hw4 k4 s4 su4 o4 _ => ?_
  rw [List.nil_append, Nat.zero_add] at o4
  replace o4 := own_mono o4 hw.sz0
  refine a_push #[B 201, B 202] hX hP tyB rfl rfl (by decide) (by decide) (by decide) (by kernel_rfl) rfl (by simp [B, Value.oneCell']) rfl (Nat.le_refl _) k4.sz0 o4 (by simp only [maxLen]; omega) (by omega) fun x6 w6 k6 s6 o6 _ => ?_
  have e6 : f.map B ++ (#[B 201, B 202] : Array Value).toList = (f ++ [201, 202]).map B := by simp
  rw [e6] at o6
  refine a_len hP tyB hx.at_ ?_
  refine a_slcH hP tyB (own_slAt o6) (by omega) ?_
  have h8 : ∀ {w : World}, Stp [] w6 w → Bs w (SubV x6 0 f.length 1) f := fun hs => by
    have := slAt_sub (s := 1) (lo := 0) (hi := f.length) ((own_slAt o6).stp0 hs) (Nat.zero_le _) (by omega)
    refine ⟨?_, hx.lt⟩
    rw [Nat.zero_mul, List.drop_zero, Nat.sub_zero, Nat.mul_one, List.map_append, List.take_append_of_le_length (by simp), List.take_of_length_le (by simp)] at this
    exact this
  refine call_W hX hS (T := TgA) (f := 53) rfl (f, i, ()) (fun w hw => ⟨⟨_, _, rfl, bs_rd.2 (h8 hw.stp), _, _, rfl, rfl, rfl⟩, hf⟩) fun v w8 w9 hw8 k9 s9 su9 hp => ?_
  obtain rfl := hp.1 hi
  rw [ask_ext0, ask_ext1]
  intro b0 hb0
  refine a_agg (cs := encS 0 ++ encS 0 ++ encS 0 ++ [Value.slice none 0 0, Value.slice none 0 0]) rfl (by kernel_rfl) ?_
  iterate 14 refine a_sel1 rfl ?_
  refine call_W hX hS (T := TgA) (f := 54) rfl (f, i, ()) (fun w hw => ⟨⟨_, _, rfl, bs_rd.2 (hx.stp0 (hw.kn.stp0 hX)), _, _, rfl, rfl, rfl⟩, hf⟩) fun v w26 w27 hw26 k27 s27 su27 hp => ?_
  obtain rfl := hp.1 hi
  rw [ask_ext0, ask_ext1]
  intro b1 hb1
  refine aggZR ?_
  have z9 := su9.size; have z27 := su27.size
  have sB : ∀ {w}, Stp [b1] w27 w → Stp [b0, b1] w6 w := fun hs => by
    have := (su9.trans su27).trans hs
    exact ⟨this.size, fun b hb hn => this.past b hb (by simpa using hn)⟩
  refine ⟨fun a w => ∃ j, a = [J j] ∧ j ≤ f.length ∧ Kn X w ∧ Stp [b1] w27 w ∧ b0 < w.heap.size ∧ b1 < w.heap.size, fun a _ => match a with | [i] => f.length - intNat i | _ => 0,
    fun w hw => ⟨0, rfl, Nat.zero_le _, hw.kn, hw.stp, hw.low (by simp [kb8_1]), hw.low (by simp [kb8_1])⟩, ?_⟩
  rintro _ wL ⟨j, he, hj, kL, s27L, lo0, lo1⟩
  simp only [List.cons.injEq, and_true] at he
  subst he
  have sL := sB s27L
  have oL := own_stp o6 sL (own_off o6 (fun b hb => by simp at hb; rcases hb with rfl | rfl <;> omega))
  have hxL := hx.stp0 (kL.stp0 hX)
  refine a_len hP tyB hx.at_ ?_
  rw [ask_lssN]
  refine a_ifD (fun hlt => ?_) fun hge => ?_
  · refine a_iadN hP tyB (own_slAt oL) (by omega) ?_
    refine a_load_one (c := B f[j]) kL (own_slAt oL) (hP ▸ aggU8) (fun _ _ => List.not_mem_nil) (by rw [Nat.mul_one, List.getElem?_map, List.getElem?_append_left hlt, List.getElem?_eq_getElem hlt]; rfl) ?_
    refine a_iadN hP tyB hxL.at_ hlt ?_
    refine a_load_one (c := B f[j]) kL hxL.at_ (hP ▸ aggU8) (fun _ _ => List.not_mem_nil) (by rw [Nat.mul_one, List.getElem?_map, List.getElem?_eq_getElem hlt]; rfl) ?_
    rw [ask_neqB]
    refine a_if (fun h => by cases h) fun _ => ?_
    rw [ask_succ (by omega)]
    intro w2 hw2
    refine ⟨⟨j + 1, rfl, hlt, hw2.kn, ?_, by have := hw2.size; omega, by have := hw2.size; omega⟩, by simp [intNat]; omega⟩
    have := s27L.trans hw2.stp
    exact ⟨this.size, fun b hb hn => this.past b hb (by simpa using hn)⟩
  rw [ask_eqlN, decide_eq_true rfl]
  refine a_GW_on (by simp [condsV]) ?_
  refine call_W hX hS (T := TgA) (f := 22) rfl () (fun w hw => ⟨rfl, trivial⟩) fun v wM' wM hwM kM sM suM hv => ?_
  obtain rfl := hv
  rw [ask_pickT]
  have oM := own_stp0 oL suM
  have c1 : condsV [(Value.bool true, true)] := by simp [condsV]
  refine a_G_on c1 (a_len hP tyB hx.at_ ?_)
  refine a_G_on c1 (a_iadN hP tyB (own_slAt oM) (by omega) ?_)
  refine a_G_on c1 (a_load_one (c := B 201) kM (own_slAt oM) (hP ▸ aggU8) (fun _ _ => List.not_mem_nil) (by rw [Nat.mul_one, List.getElem?_map, List.getElem?_append_right (Nat.le_refl _), Nat.sub_self]; rfl) ?_)
  refine a_G_on c1 ?_
  rw [show (Value.int .u8 201) = B 201 from rfl, ask_eqlB, ask_pickT]
  refine a_G_on c1 (a_len hP tyB hx.at_ ?_)
  refine a_G_on c1 ?_
  rw [ask_succ (by omega)]
  refine a_G_on c1 (a_iadN hP tyB (own_slAt oM) (by omega) ?_)
  refine a_G_on c1 (a_load_one (c := B 202) kM (own_slAt oM) (hP ▸ aggU8) (fun _ _ => List.not_mem_nil) (by rw [Nat.mul_one, List.getElem?_map, List.getElem?_append_right (Nat.le_add_right _ _), Nat.add_sub_cancel_left]; rfl) ?_)
  refine a_G_on c1 ?_
  rw [show (Value.int .u8 202) = B 202 from rfl, ask_eqlB, ask_pickT]
  exact hR _ _ _ _ fun _ _ => rfl
theorem keepsGLB : Keeps1 Tryd.prog GH 8 cGLB := by
  refine keepsW (T := TgB) (A := ann8) hMix keepTgB hGH (calls_of (by kernel_rfl)) (callsW_of (by kernel_rfl)) fun args ⟨f, i, _⟩ w0 hrd hpre hg => ?_
  obtain ⟨x, _, rfl, hx, _, _, rfl, rfl, rfl⟩ := hrd
  dsimp only at hx hpre
  replace hx := bs_rd.1 hx
  obtain ⟨hi, hf⟩ := hpre
  have hf' := hf
  simp only [mxF] at hf'
  refine ⟨[.x (.v 0), .x (.v 1)], [], [], 3, env0 [x, .int .i64 i] w0, fun b => b, 0, rfl, rfl, fun X hX => mem_none hX rfl, fun X hP hS hw hX hR => ?_⟩
  subst hw; try dsimp only at hR
  rw [vc8 X]
  refine a_build0 hX hP tyB fun g w w3 hw k3 s3 su3 o3 => ?_
  refine a_append hX hP tyB rfl rfl rfl (by decide) hw.sz0 s3.size o3 (fun w hw => hx.at_.stp0 (hw.kn.stp0 hX)) (by simp) (oneMapB f) (fun _ _ => List.not_mem_nil) (fun _ _ _ _ => List.not_mem_nil)
    (by simp only [maxLen]; omega) (by omega) fun x4 w4 w4' hw4 k4 s4 su4 o4 _ => ?_
  rw [List.nil_append, Nat.zero_add] at o4
  replace o4 := own_mono o4 hw.sz0
  refine a_push #[B 201, B 202] hX hP tyB rfl rfl (by decide) (by decide) (by decide) (by kernel_rfl) rfl (by simp [B, Value.oneCell']) rfl (Nat.le_refl _) k4.sz0 o4 (by simp only [maxLen]; omega) (by omega) fun x6 w6 k6 s6 o6 _ => ?_
  have e6 : f.map B ++ (#[B 201, B 202] : Array Value).toList = (f ++ [201, 202]).map B := by simp
  rw [e6] at o6
  refine a_len hP tyB hx.at_ ?_
  refine a_slcH hP tyB (own_slAt o6) (by omega) ?_
  have h8 : ∀ {w : World}, Stp [] w6 w → Bs w (SubV x6 0 f.length 1) f := fun hs => by
    have := slAt_sub (s := 1) (lo := 0) (hi := f.length) ((own_slAt o6).stp0 hs) (Nat.zero_le _) (by omega)
    refine ⟨?_, hx.lt⟩
    rw [Nat.zero_mul, List.drop_zero, Nat.sub_zero, Nat.mul_one, List.map_append, List.take_append_of_le_length (by simp), List.take_of_length_le (by simp)] at this
    exact this
  obtain ⟨n, rfl⟩ : ∃ k : Nat, i = k := ⟨i.toNat, by omega⟩
  have hn : n ≤ 1024 := by omega
  refine call_W hX hS (T := TgB) (f := 53) rfl (f, n, ()) (fun w hw => ⟨⟨_, _, rfl, bs_rd.2 (h8 hw.stp), _, _, rfl, rfl, rfl⟩, hf⟩) fun v w8 w9 hw8 k9 s9 su9 hp => ?_
  obtain ⟨s, rfl, hs⟩ := hp.2 n rfl hn
  dsimp only at hs
  rw [ask_ext0, ask_ext1]
  intro b0 hb0
  obtain ⟨gv, hv, rfl, og, oh⟩ := id hs
  refine a_agg rfl (by simp [one_encS, own_one og, own_one oh]) ?_
  iterate 14 refine a_sel1 rfl ?_
  refine call_W hX hS (T := TgB) (f := 54) rfl (f, n, ()) (fun w hw => ⟨⟨_, _, rfl, bs_rd.2 (hx.stp0 (hw.kn.stp0 hX)), _, _, rfl, rfl, rfl⟩, hf⟩) fun v w26 w27 hw26 k27 s27 su27 hp => ?_
  obtain ⟨t, rfl, ht⟩ := hp.2 n rfl hn
  dsimp only at ht
  rw [ask_ext0, ask_ext1]
  intro b1 hb1
  obtain ⟨gr, hr, rfl, ogr, ohr⟩ := id ht
  refine RSet_agg (own_one ogr) (own_one ohr) ?_
  have z9 := su9.size; have z27 := su27.size
  have sB : ∀ {w}, Stp [b1] w27 w → Stp [b0, b1] w6 w := fun hs => by
    have := (su9.trans su27).trans hs
    exact ⟨this.size, fun b hb hn => this.past b hb (by simpa using hn)⟩
  refine ⟨fun a w => ∃ j, a = [J j] ∧ j ≤ f.length ∧ Kn X w ∧ Stp [b1] w27 w ∧ b0 < w.heap.size ∧ b1 < w.heap.size, fun a _ => match a with | [i] => f.length - intNat i | _ => 0,
    fun w hw => ⟨0, rfl, Nat.zero_le _, hw.kn, hw.stp, hw.low (by simp [kb8_1]), hw.low (by simp [kb8_1])⟩, ?_⟩
  rintro _ wL ⟨j, he, hj, kL, s27L, lo0, lo1⟩
  simp only [List.cons.injEq, and_true] at he
  subst he
  have sL := sB s27L
  have oL := own_stp o6 sL (own_off o6 (fun b hb => by simp at hb; rcases hb with rfl | rfl <;> omega))
  have hxL := hx.stp0 (kL.stp0 hX)
  refine a_len hP tyB hx.at_ ?_
  rw [ask_lssN]
  refine a_ifD (fun hlt => ?_) fun hge => ?_
  · refine a_iadN hP tyB (own_slAt oL) (by omega) ?_
    refine a_load_one (c := B f[j]) kL (own_slAt oL) (hP ▸ aggU8) (fun _ _ => List.not_mem_nil) (by rw [Nat.mul_one, List.getElem?_map, List.getElem?_append_left hlt, List.getElem?_eq_getElem hlt]; rfl) ?_
    refine a_iadN hP tyB hxL.at_ hlt ?_
    refine a_load_one (c := B f[j]) kL hxL.at_ (hP ▸ aggU8) (fun _ _ => List.not_mem_nil) (by rw [Nat.mul_one, List.getElem?_map, List.getElem?_eq_getElem hlt]; rfl) ?_
    rw [ask_neqB]
    refine a_if (fun h => by cases h) fun _ => ?_
    rw [ask_succ (by omega)]
    intro w2 hw2
    refine ⟨⟨j + 1, rfl, hlt, hw2.kn, ?_, by have := hw2.size; omega, by have := hw2.size; omega⟩, by simp [intNat]; omega⟩
    have := s27L.trans hw2.stp
    exact ⟨this.size, fun b hb hn => this.past b hb (by simpa using hn)⟩
  rw [ask_eqlN, decide_eq_true rfl]
  refine a_GW_on (by simp [condsV]) ?_
  refine call_W hX hS (T := TgB) (f := 22) rfl ((glN f 1 0, glN f 2 0, glN f 3 0, glist f 4 n, glist f 5 n), (glN f 1 0, glN f 2 0, glN f 3 0, glist f 4 n, glist f 5 n), ()) (fun w hw => ⟨⟨_, _, rfl, ((hs.off su27 (all1 hb0)).off (s27L.trans hw.stp) (fun b hb => by simp at hb; omega)).rd, _, _, rfl, (ht.off (s27L.trans hw.stp) (fun b hb => by simp at hb; omega)).rd, rfl⟩, ?_⟩) fun v wM' wM hwM kM sM suM hv => ?_
  · refine ⟨by dsimp only; rw [glist_len]; simp only [mx]; omega, by dsimp only; rw [glist_len]; simp only [mx]; omega, ?_⟩
    simp only [glN_mod, glist_lm]
  obtain rfl := hv
  rw [ask_pickT]
  have oM := own_stp0 oL suM
  have c1 : condsV [(Value.bool true, true)] := by simp [condsV]
  refine a_G_on c1 (a_len hP tyB hx.at_ ?_)
  refine a_G_on c1 (a_iadN hP tyB (own_slAt oM) (by omega) ?_)
  refine a_G_on c1 (a_load_one (c := B 201) kM (own_slAt oM) (hP ▸ aggU8) (fun _ _ => List.not_mem_nil) (by rw [Nat.mul_one, List.getElem?_map, List.getElem?_append_right (Nat.le_refl _), Nat.sub_self]; rfl) ?_)
  refine a_G_on c1 ?_
  rw [show (Value.int .u8 201) = B 201 from rfl, ask_eqlB, ask_pickT]
  refine a_G_on c1 (a_len hP tyB hx.at_ ?_)
  refine a_G_on c1 ?_
  rw [ask_succ (by omega)]
  refine a_G_on c1 (a_iadN hP tyB (own_slAt oM) (by omega) ?_)
  refine a_G_on c1 (a_load_one (c := B 202) kM (own_slAt oM) (hP ▸ aggU8) (fun _ _ => List.not_mem_nil) (by rw [Nat.mul_one, List.getElem?_map, List.getElem?_append_right (Nat.le_add_right _ _), Nat.add_sub_cancel_left]; rfl) ?_)
  refine a_G_on c1 ?_
  rw [show (Value.int .u8 202) = B 202 from rfl, ask_eqlB, ask_pickT]
  exact hR _ _ _ _ fun _ _ => rfl
def cGL : Contract := fnW (Cods.cons cBs (Cods.cons cI Cods.nil)) (fun p _ => p.1.length ≤ mxF) (fun _ _ v _ => v = .bool true)
theorem keepsGL : Keeps1 Tryd.prog GH 8 cGL := ⟨fun args w hp => hp.elim, fun args w ⟨a, hrd, hp⟩ hg => by
  by_cases h : a.2.1 < 0 ∨ 1024 < a.2.1
  · exact keepsGLA.callsW args w ⟨a, hrd, h, hp⟩ hg
  · exact keepsGLB.callsW args w ⟨a, hrd, h, hp⟩ hg⟩
#print axioms keepsGL
end Go.Vc
