/-
  The document's parts; comparisons of sets.
-/
import Derived.Test.YtoakfcihcmmihaaDoorDGen3
namespace Go.Vc
open Go Go.Proofs Go.RowKit

def ann21 : Ann := ⟨[], [], 70, [], []⟩
def kb21_0 (b0 b1 b2 : Nat) (x4 x30 : Value) : List KB := [⟨b0, true, 44, (aggArr x4)⟩, ⟨b1, true, 44, #[(J 0), (J 0), (J 0), (J 0), (J 0), (J 0), (J 0), (J 0), (J 0), (J 0), (J 0), (J 0), (J 0), (J 0), (J 0), (J 0), (J 0), (J 0), (J 0), (J 0), (J 0), (J 0), (U 0), (U 0), (U 0), (U 0), (.slice none 0 0), (J 0), (J 0), (J 0), (J 0), (J 0), (J 0), (J 0), (J 0), (J 0), (J 0), (J 0), (J 0), (J 0), (J 0), (J 0), (J 0), (J 0), (J 0), (J 0), (J 0), (J 0), (U 0), (U 0), (U 0), (U 0), (.slice none 0 0), (J 0), (J 0), (J 0), (J 0), (J 0), (J 0), (J 0), (J 0), (J 0), (J 0), (J 0), (J 0), (J 0), (J 0), (J 0), (J 0), (J 0), (J 0), (J 0), (J 0), (J 0), (U 0), (U 0), (U 0), (U 0), (.slice none 0 0), (.slice none 0 0), (.slice none 0 0)]⟩, ⟨b2, true, 44, (aggArr x30)⟩]
def kb21_1 (b0 b1 b2 : Nat) (x4 x36 : Value) : List KB := [⟨b0, true, 44, (aggArr x4)⟩, ⟨b1, true, 44, #[(J 0), (J 0), (J 0), (J 0), (J 0), (J 0), (J 0), (J 0), (J 0), (J 0), (J 0), (J 0), (J 0), (J 0), (J 0), (J 0), (J 0), (J 0), (J 0), (J 0), (J 0), (J 0), (U 0), (U 0), (U 0), (U 0), (.slice none 0 0), (J 0), (J 0), (J 0), (J 0), (J 0), (J 0), (J 0), (J 0), (J 0), (J 0), (J 0), (J 0), (J 0), (J 0), (J 0), (J 0), (J 0), (J 0), (J 0), (J 0), (J 0), (U 0), (U 0), (U 0), (U 0), (.slice none 0 0), (J 0), (J 0), (J 0), (J 0), (J 0), (J 0), (J 0), (J 0), (J 0), (J 0), (J 0), (J 0), (J 0), (J 0), (J 0), (J 0), (J 0), (J 0), (J 0), (J 0), (J 0), (U 0), (U 0), (U 0), (U 0), (.slice none 0 0), (.slice none 0 0), (.slice none 0 0)]⟩, ⟨b2, true, 44, (aggArr x36)⟩]
theorem vc21 (X : Ctx) (β : Nat → Nat) (x0 x1 x2 : Value) : (run Tryd.prog ann21 21 [.x (.v 0), .x (.v 1), .x (.v 2)] [] [] 4).den X (env0 [x0, x1, x2] X.w0) 4 β 0 (fun _ _ _ => False) = (
  Ask (rAgg 81 x0) fun x4 =>
  AskNew X.w0 fun b0 =>
  AskNew X.w0 fun b1 =>
  Ask (rBin X.P .lss 3 false true x1 (J 0)) fun x5 =>
  AskG [(x5, false)] (rBin X.P .lss 3 false true x2 (J 0)) fun x6 =>
  Ask (rPick x5 (.bool true) x6) fun x7 =>
  (∃ t, x7 = .bool t) ∧ (x7 = .bool true →
    Ret X X.w0 [b1] [] (.tuple #[(.agg #[(J 0), (J 0), (J 0), (J 0), (J 0), (J 0), (J 0), (J 0), (J 0), (J 0), (J 0), (J 0), (J 0), (J 0), (J 0), (J 0), (J 0), (J 0), (J 0), (J 0), (J 0), (J 0), (U 0), (U 0), (U 0), (U 0), (.slice none 0 0), (J 0), (J 0), (J 0), (J 0), (J 0), (J 0), (J 0), (J 0), (J 0), (J 0), (J 0), (J 0), (J 0), (J 0), (J 0), (J 0), (J 0), (J 0), (J 0), (J 0), (J 0), (U 0), (U 0), (U 0), (U 0), (.slice none 0 0), (J 0), (J 0), (J 0), (J 0), (J 0), (J 0), (J 0), (J 0), (J 0), (J 0), (J 0), (J 0), (J 0), (J 0), (J 0), (J 0), (J 0), (J 0), (J 0), (J 0), (J 0), (U 0), (U 0), (U 0), (U 0), (.slice none 0 0), (.slice none 0 0), (.slice none 0 0)]), (J 1)])) ∧ (x7 = .bool false →
    Ask (rSel (aggArr x4) 79 1 false) fun x8 =>
    Ask (rLen X.P 42 x8) fun x9 =>
    Ask (rBin X.P .gtr 3 false false x2 x9) fun x10 =>
    AskG [(x10, false)] (rSel (aggArr x4) 80 1 false) fun x11 =>
    AskG [(x10, false)] (rLen X.P 42 x11) fun x12 =>
    AskG [(x10, false)] (rBin X.P .gtr 3 false false x2 x12) fun x13 =>
    Ask (rPick x10 (.bool true) x13) fun x14 =>
    AskG [(x14, false)] (rSel (aggArr x4) 79 1 false) fun x15 =>
    AskG [(x14, false)] (rLen X.P 42 x15) fun x16 =>
    AskG [(x14, false)] (rBin X.P .sub 3 false false x16 x2) fun x17 =>
    AskG [(x14, false)] (rBin X.P .gtr 3 false false x1 x17) fun x18 =>
    Ask (rPick x14 (.bool true) x18) fun x19 =>
    AskG [(x19, false)] (rSel (aggArr x4) 80 1 false) fun x20 =>
    AskG [(x19, false)] (rLen X.P 42 x20) fun x21 =>
    AskG [(x19, false)] (rBin X.P .sub 3 false false x21 x2) fun x22 =>
    AskG [(x19, false)] (rBin X.P .gtr 3 false false x1 x22) fun x23 =>
    Ask (rPick x19 (.bool true) x23) fun x24 =>
    (∃ t, x24 = .bool t) ∧ (x24 = .bool true →
      Ret X X.w0 [b1] [] (.tuple #[(.agg #[(J 0), (J 0), (J 0), (J 0), (J 0), (J 0), (J 0), (J 0), (J 0), (J 0), (J 0), (J 0), (J 0), (J 0), (J 0), (J 0), (J 0), (J 0), (J 0), (J 0), (J 0), (J 0), (U 0), (U 0), (U 0), (U 0), (.slice none 0 0), (J 0), (J 0), (J 0), (J 0), (J 0), (J 0), (J 0), (J 0), (J 0), (J 0), (J 0), (J 0), (J 0), (J 0), (J 0), (J 0), (J 0), (J 0), (J 0), (J 0), (J 0), (U 0), (U 0), (U 0), (U 0), (.slice none 0 0), (J 0), (J 0), (J 0), (J 0), (J 0), (J 0), (J 0), (J 0), (J 0), (J 0), (J 0), (J 0), (J 0), (J 0), (J 0), (J 0), (J 0), (J 0), (J 0), (J 0), (J 0), (U 0), (U 0), (U 0), (U 0), (.slice none 0 0), (.slice none 0 0), (.slice none 0 0)]), (J 2)])) ∧ (x24 = .bool false →
      Ask (rSel (aggArr x4) 0 1 false) fun x25 =>
      Ask (rSel (aggArr x4) 1 26 true) fun x26 =>
      Ask (rSel (aggArr x4) 27 26 true) fun x27 =>
      Ask (rSel (aggArr x4) 53 26 true) fun x28 =>
      Ask (rBld X.P 44 #[(0, x25), (1, x26), (2, x27), (3, x28)]) fun x29 =>
      AskNew X.w0 fun b2 =>
      Ask (rAgg 81 x29) fun x30 =>
      Ask (rSel (aggArr x30) 79 1 false) fun x31 =>
      Ask (rSel (aggArr x4) 79 1 false) fun x32 =>
      Ask (rBin X.P .add 3 false false x1 x2) fun x33 =>
      Ask (rSlc X.P 42 x32 (some x1) (some x33) none) fun x34 =>
      AskO X X.w0 [b2] (kb21_0 b0 b1 b2 x4 x30) true (appOp (.tmp 57) (.tmp 64) 42) 42 [(57, x31), (64, x34)] fun x35 w35 =>
      Ask (rUpd (aggArr x30) 79 1 x35) fun x36 =>
      Ask (rSel (aggArr x36) 80 1 false) fun x37 =>
      Ask (rSel (aggArr x4) 80 1 false) fun x38 =>
      Ask (rBin X.P .add 3 false false x1 x2) fun x39 =>
      Ask (rSlc X.P 42 x38 (some x1) (some x39) none) fun x40 =>
      AskO X w35 [b2] (kb21_1 b0 b1 b2 x4 x36) true (appOp (.tmp 68) (.tmp 75) 42) 42 [(68, x37), (75, x40)] fun x41 w41 =>
      Ask (rUpd (aggArr x36) 80 1 x41) fun x42 =>
      Ask (rAgg 81 x42) fun x43 =>
      Ret X w41 [b1, b2] [] (.tuple #[x43, (J 0)])))) := by kernel_rfl
def cRPart : Contract := fnW (Cods.cons cRSetL (Cods.cons cI (Cods.cons cI Cods.nil))) (fun p _ => p.1.2.2.2.1.length ≤ mx ∧ p.1.2.2.2.2.length ≤ mx)
  (fun p _ v w' => (partCode p.1.2.2.2.1.length p.1.2.2.2.2.length p.2.1 p.2.2.1 ≠ 0 → ∃ cs : List Value, cs.length = 81 ∧ cs.all (·.oneCell') = true ∧ v = .tuple #[.agg cs.toArray, J (partCode p.1.2.2.2.1.length p.1.2.2.2.2.length p.2.1 p.2.2.1)]) ∧
    (partCode p.1.2.2.2.1.length p.1.2.2.2.2.length p.2.1 p.2.2.1 = 0 → ∃ x, v = .tuple #[x, J 0] ∧ cRSetL.rd w' x (p.1.1, p.1.2.1, p.1.2.2.1, (p.1.2.2.2.1.drop p.2.1.toNat).take p.2.2.1.toNat, (p.1.2.2.2.2.drop p.2.1.toNat).take p.2.2.1.toNat)))
theorem one81 : (([J 0] ++ zE ++ zE ++ zE ++ [Value.slice none 0 0, Value.slice none 0 0]).all (·.oneCell')) = true := by
  simp only [List.all_append, List.all_cons, List.all_nil, one_zE, Bool.and_true]; rfl
theorem keepsRPart : Keeps1 Tryd.prog GT 21 cRPart := by
  refine keepsW (T := T0) (A := ann21) hMix keepT0 hGT (fun f hf => by cases hf) (fun f hf => by cases hf) fun args ⟨⟨b, bl, q, G, H⟩, a, n, _⟩ w0 hrd hpre _ => ?_
  obtain ⟨_, _, rfl, ⟨g, h, rfl, ob, obl, oq, hg, hh⟩, _, _, rfl, rfl, _, _, rfl, rfl, rfl⟩ := hrd
  dsimp only at hpre ob obl oq hg hh
  refine ⟨[.x (.v 0), .x (.v 1), .x (.v 2)], [], [], 4, env0 [RSetV b bl (encE q) g h, .int .i64 a, .int .i64 n] w0, fun b => b, 0, rfl, rfl, fun X hX => mem_none hX rfl, fun X hP hS hw hX hR => ?_⟩
  subst hw; dsimp only at hR
  replace hg : Ls encE okS X.w0 g G := hg
  replace hh : Ls encE okS X.w0 h H := hh
  rw [vc21 X]
  rw [ask_aggR (slAt_one hg.1) (slAt_one hh.1)]
  intro b0 _ b1 _
  have bad : ∀ (c : Nat), partCode G.length H.length a n = c → c ≠ 0 → ∀ u ow bl, Ret X u ow bl (.tuple #[.agg ([J 0] ++ zE ++ zE ++ zE ++ [Value.slice none 0 0, Value.slice none 0 0]).toArray, J c]) := fun c h1 h2 u ow bl => hR _ _ _ _ fun w _ => ⟨fun _ => ⟨_, rfl, one81, by rw [h1]⟩, fun h => absurd (h1 ▸ h) h2⟩
  rw [ask_lss]
  by_cases ha : a < 0
  · rw [show decide (a < ((0 : Nat) : Int)) = true by simpa using ha]
    refine a_G_off (condsV1_not (by decide)) fun v => ?_
    rw [ask_pickT]
    exact a_if (fun _ => bad 1 (by simp [partCode, ha]) (by decide) _ _ _) fun h => by cases h
  rw [show decide (a < ((0 : Nat) : Int)) = false by simpa using ha]
  refine a_G_on condsV1 ?_
  rw [ask_lss, ask_pickF]
  refine a_ifD (fun hn => bad 1 (by have : n < 0 := by simpa using hn
                                    simp [partCode, this]) (by decide) _ _ _) fun hn => ?_
  obtain ⟨a, rfl⟩ : ∃ k : Nat, a = k := ⟨a.toNat, by omega⟩
  obtain ⟨n, rfl⟩ : ∃ k : Nat, n = k := ⟨n.toNat, by simp at hn; omega⟩
  have hmG : min G.length H.length ≤ G.length := Nat.min_le_left _ _
  have hmH : min G.length H.length ≤ H.length := Nat.min_le_right _ _
  have hmin : min G.length H.length = G.length ∨ min G.length H.length = H.length := by rw [Nat.min_def]; split <;> simp
  have code2 : (G.length < n ∨ H.length < n ∨ G.length < a + n ∨ H.length < a + n) → partCode G.length H.length a n = 2 := fun h => by
    unfold partCode
    rw [if_neg (by omega), if_pos (by omega)]
  refine a_sel1 (v := g) rfl ?_
  refine a_len hP tyE hg.1 ?_
  rw [ask_gtr]
  simp only [Int.ofNat_lt]
  by_cases c1 : G.length < n
  · rw [show decide (G.length < n) = true by simpa using c1]
    refine a_G_off (condsV1_not (by decide)) fun _ => a_G_off (condsV1_not (by decide)) fun _ => a_G_off (condsV1_not (by decide)) fun _ => ?_
    rw [ask_pickT]
    iterate 4 refine a_G_off (condsV1_not (by decide)) fun _ => ?_
    rw [ask_pickT]
    iterate 4 refine a_G_off (condsV1_not (by decide)) fun _ => ?_
    rw [ask_pickT]
    exact a_if (fun _ => bad 2 (code2 (.inl c1)) (by decide) _ _ _) fun h => by cases h
  rw [show decide (G.length < n) = false by simpa using c1]
  refine a_G_on condsV1 (a_sel1 (v := h) rfl ?_)
  refine a_G_on condsV1 (a_len hP tyE hh.1 ?_)
  refine a_G_on condsV1 ?_
  rw [ask_gtr, ask_pickF]
  simp only [Int.ofNat_lt]
  by_cases c2 : H.length < n
  · rw [show decide (H.length < n) = true by simpa using c2]
    iterate 4 refine a_G_off (condsV1_not (by decide)) fun _ => ?_
    rw [ask_pickT]
    iterate 4 refine a_G_off (condsV1_not (by decide)) fun _ => ?_
    rw [ask_pickT]
    exact a_if (fun _ => bad 2 (code2 (.inr (.inl c2))) (by decide) _ _ _) fun h => by cases h
  rw [show decide (H.length < n) = false by simpa using c2]
  refine a_G_on condsV1 (a_sel1 (v := g) rfl ?_)
  refine a_G_on condsV1 (a_len hP tyE hg.1 ?_)
  refine a_G_on condsV1 ?_
  rw [ask_subN (by omega) (by simp only [mx] at *; omega)]
  refine a_G_on condsV1 ?_
  rw [ask_gtr, ask_pickF]
  simp only [Int.ofNat_lt]
  by_cases c3 : G.length - n < a
  · rw [show decide (G.length - n < a) = true by simpa using c3]
    iterate 4 refine a_G_off (condsV1_not (by decide)) fun _ => ?_
    rw [ask_pickT]
    exact a_if (fun _ => bad 2 (code2 (by omega)) (by decide) _ _ _) fun h => by cases h
  rw [show decide (G.length - n < a) = false by simpa using c3]
  refine a_G_on condsV1 (a_sel1 (v := h) rfl ?_)
  refine a_G_on condsV1 (a_len hP tyE hh.1 ?_)
  refine a_G_on condsV1 ?_
  rw [ask_subN (by omega) (by simp only [mx] at *; omega)]
  refine a_G_on condsV1 ?_
  rw [ask_gtr, ask_pickF]
  simp only [Int.ofNat_lt]
  refine a_ifD (fun c4 => bad 2 (code2 (by omega)) (by decide) _ _ _) fun c4 => ?_
  have hc : partCode G.length H.length a n = 0 := by
    unfold partCode
    rw [if_neg (by omega), if_neg (by omega)]
  refine a_sel1 (v := J 2) rfl ?_
  refine a_selL (ds := encE b) rfl (by simp [encE_len]) ?_
  refine a_selL (ds := encE bl) rfl (by simp [encE_len]) ?_
  refine a_selL (ds := encE q) rfl (by simp [encE_len]) ?_
  refine a_bld ([J 2] ++ encE b ++ encE bl ++ encE q ++ [Value.slice none 0 0, Value.slice none 0 0]).toArray hP (by kernel_rfl) ?_
  intro b2 _
  have foldR : Value.agg ([J 2] ++ encE b ++ encE bl ++ encE q ++ [Value.slice none 0 0, Value.slice none 0 0]).toArray = RSetV b bl (encE q) (.slice none 0 0) (.slice none 0 0) := rfl
  rw [foldR, ask_aggR rfl rfl]
  have sg := ls_sub encE_len hg (a := a) (n := n) (by omega)
  have sh := ls_sub encE_len hh (a := a) (n := n) (by omega)
  refine a_sel1 (v := .slice none 0 0) rfl ?_
  refine a_sel1 (v := g) rfl ?_
  rw [ask_addN (by simp only [mx] at *; omega)]
  refine a_slcLH hP tyE hg.1 (Nat.le_add_right _ _) (by omega) ?_
  have lg : ((G.drop a).take n).length = n := by rw [List.length_take, List.length_drop]; omega
  have lh : ((H.drop a).take n).length = n := by rw [List.length_take, List.length_drop]; omega
  refine a_append hX hP tyE (v := .slice none 0 0) (x := SubV g a (a + n) 26) rfl rfl rfl (by decide) (Nat.le_refl _) (Nat.le_refl _) (World.ownsRow_nil _ _ _ _) (fun w hw => sg.1.stp0 (hw.kn.stp0 hX)) (flat_len encE_len _) (flat_one one_encE _) (fun _ h => by cases h) (fun _ _ _ h => by cases h)
    (by rw [lg]; simp only [maxLen, mx] at *; omega) (by rw [lg]; simp only [mx] at *; omega) fun v1 w1 u1 e1 k1 _ s1 o1 hb1 => ?_
  rw [ask_updG (own_one o1)]
  refine a_sel1 (v := .slice none 0 0) rfl ?_
  refine a_sel1 (v := h) rfl ?_
  rw [ask_addN (by simp only [mx] at *; omega)]
  refine a_slcLH hP tyE hh.1 (Nat.le_add_right _ _) (by omega) ?_
  refine a_append hX hP tyE (v := .slice none 0 0) (x := SubV h a (a + n) 26) rfl rfl rfl (by decide) (Nat.le_refl _) k1.sz0 (World.ownsRow_nil _ _ _ _) (fun w hw => sh.1.stp0 (hw.kn.stp0 hX)) (flat_len encE_len _) (flat_one one_encE _) (fun _ h => by cases h) (fun _ _ _ h => by cases h)
    (by rw [lh]; simp only [maxLen, mx] at *; omega) (by rw [lh]; simp only [mx] at *; omega) fun v2 w2 u2 e2 k2 _ s2 o2 hb2' => ?_
  rw [ask_updH (own_one o2), ask_aggR (own_one o1) (own_one o2)]
  have l1 : ∀ x, v1.ownBlock = some x → x ≠ b1 ∧ x ≠ b2 := fun x hx => by
    rcases hb1 with hb1 | hb1
    · rw [hb1] at hx; cases hx
    · rw [hb1] at hx
      cases hx
      have := e1.low (b := b1) (by simp [kb21_0])
      have := e1.low (b := b2) (by simp [kb21_0])
      omega
  have l2 : ∀ x, v2.ownBlock = some x → x ≠ b1 ∧ x ≠ b2 := fun x hx => by
    rcases hb2' with hb1 | hb1
    · rw [hb1] at hx; cases hx
    · rw [hb1] at hx
      cases hx
      have := e2.low (b := b1) (by simp [kb21_1])
      have := e2.low (b := b2) (by simp [kb21_1])
      omega
  refine hR _ _ _ _ fun w hw => ⟨fun h => absurd hc h, fun _ => ⟨_, rfl, v1, v2, rfl, ob, obl, oq, ⟨?_, sg.2⟩, ⟨?_, sh.2⟩⟩⟩
  · have h0 : SlAt u2 v1 _ _ := (own_slAt o1).stp s2 (fun x hx hm => by
      simp only [List.mem_append, List.mem_singleton, Value.ownBlock, Option.toList, List.not_mem_nil, or_false] at hm
      exact (l1 x hx).2 hm)
    have := h0.stp hw.stp (fun x hx hm => by
      simp only [List.mem_cons, List.not_mem_nil, or_false] at hm
      rcases hm with hm | hm
      · exact (l1 x hx).1 hm
      · exact (l1 x hx).2 hm)
    simpa using this
  · have := (own_slAt o2).stp hw.stp (fun x hx hm => by
      simp only [List.mem_cons, List.not_mem_nil, or_false] at hm
      rcases hm with hm | hm
      · exact (l2 x hx).1 hm
      · exact (l2 x hx).2 hm)
    simpa using this
end Go.Vc
