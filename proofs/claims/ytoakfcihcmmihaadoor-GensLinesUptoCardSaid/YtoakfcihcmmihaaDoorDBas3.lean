/-
  GensBases: the sets on both sides, the look at them, the law.
-/
import Derived.Test.YtoakfcihcmmihaaDoorDBas2
namespace Go.Vc
open Go Go.Proofs Go.RowKit

/-- An element over the lists. -/
def encEL (v : Value) : List Value := [J 3, J 0, J 0, J 0, J 0, J 0, J 0, J 0, J 0, J 0, J 0, J 0, J 0, J 0, J 0, J 0, J 0, J 0, J 0, J 0, J 0, U 0, U 0, U 0, U 0, v]
theorem encEL_len (v : Value) : (encEL v).length = 26 := rfl
def EL (v : Value) : Value := .agg (encEL v).toArray
theorem one_encEL {v : Value} (h : v.oneCell' = true) : (encEL v).all (·.oneCell') = true := by
  simp only [encEL, List.all_cons, List.all_nil, h, Bool.and_true]
  rfl
theorem tyR : ElTy Tryd.prog 37 36 4 32 (.agg #[U 0, U 0, U 0, U 0]) := ⟨by kernel_rfl, by kernel_rfl⟩
/-- A load of element i of a list of the document's scalars. -/
theorem ld_R {X : Ctx} {u : World} {v : Value} {xs : List Value} {l : List Nat} {n i : Nat} {ow : List Nat} {K : Value → Prop} (hP : X.P = Tryd.prog) (hk : Kn X u) (h : SlAt u v n xs) (hx : xs = l.flatMap encS) (hn : l.length = n) (hi : i < l.length) (how : ∀ b, v.ownBlock = some b → b ∉ ow)
    (hK : K (S l[i])) : Ask (rIad X.P 37 v (J i)) fun p => Ask (rLoad X u ow 36 p) K := by
  subst hx
  refine a_iadN hP tyR h (by omega) ?_
  refine a_load_agg (cs := encS l[i]) hk h (by rw [hP]; exact aggR) (by rw [hP]; exact szR) how (by simp [encS]) (flat_at encS_len l i _ (List.getElem?_eq_getElem hi)) ?_
  exact hK

/-! ### the program's set -/
def cBasis : Contract := fnW (Cods.cons cI Cods.nil) (fun _ _ => True) (fun p w v w' => ((p.1 < 0 ∨ 64 < p.1) → v = .tuple #[.agg #[.slice none 0 0, .slice none 0 0, .slice none 0 0, .slice none 0 0, .slice none 0 0], J 1]) ∧
  (∀ n : Nat, p.1 = n → n ≤ 64 → ∃ x y z g h vs us, v = .tuple #[.agg #[x, y, z, g, h], J 0] ∧ SlAt w' g n vs ∧ SlAt w' h n us ∧ FSet 24 w.heap.size w' n x y z g h vs us))
def Tba : Table := T0.add 61 cBuild
theorem keepTba : AllKeep Tryd.prog GT Tba := keepT0.add keepsBuild
theorem ask_makeFunc {P : Program} {K : Value → Prop} {f a ty : Nat} {p : Value} : Ask (rGen P (.makeFunc (.func f) #[] #[.tmp a]) ty [(a, p)]) K = K (.func (.func f) #[] #[p]) :=
  ask_eq (runsN_iff fun w => by simp [execOp, Instr.makeFunc, argsFn])
def ann27 : Ann := ⟨[], [], 70, [(61, false)], [], none, [], []⟩
def kb27_0 (b0 b1 : Nat) (x2 : Value) : List KB := [⟨b0, true, 3, #[x2]⟩, ⟨b1, true, 80, #[(.slice none 0 0), (.slice none 0 0), (.slice none 0 0), (.slice none 0 0), (.slice none 0 0)]⟩]
theorem vc27 (X : Ctx) (β : Nat → Nat) (x0 : Value) : (run Tryd.prog ann27 27 [.x (.v 0)] [] [] 2).den X (env0 [x0] X.w0) 2 β 0 (fun _ _ _ => False) = (
  Ask (rPlain x0) fun x2 =>
  AskNew X.w0 fun b0 =>
  AskNew X.w0 fun b1 =>
  Ask (rBin X.P .lss 3 false true x2 (J 0)) fun x3 =>
  AskG [(x3, false)] (rBin X.P .gtr 3 false true x2 (J 64)) fun x4 =>
  Ask (rPick x3 (.bool true) x4) fun x5 =>
  (∃ t, x5 = .bool t) ∧ (x5 = .bool true →
    Ret X X.w0 [b1] [] (.tuple #[(.agg #[(.slice none 0 0), (.slice none 0 0), (.slice none 0 0), (.slice none 0 0), (.slice none 0 0)]), (J 1)])) ∧ (x5 = .bool false →
    Ask (rGen X.P (Go.Op.makeFunc (Go.Fn.func 62) #[] #[Go.Operand.tmp 1]) 125 [(1, (.pointer (some ⟨b0, 0, none⟩)))]) fun x6 =>
    AskW X X.w0 [] (kb27_0 b0 b1 x2) false 61 [x2, x6] fun x7 w7 =>
    Ask (rAgg 5 x7) fun x8 =>
    Ask (rSel (aggArr x8) 0 1 false) fun x9 =>
    Ask (rSel (aggArr x8) 1 1 false) fun x10 =>
    Ask (rSel (aggArr x8) 2 1 false) fun x11 =>
    Ask (rSel (aggArr x8) 3 1 false) fun x12 =>
    Ask (rSel (aggArr x8) 4 1 false) fun x13 =>
    Ret X w7 [b1] [] (.tuple #[(.agg #[x9, x10, x11, x12, x13]), (J 0)]))) := by kernel_rfl
theorem keepsBasis : Keeps1 Tryd.prog GT 27 cBasis := by
  refine keepsW (T := Tba) (A := ann27) hMix keepTba hGT (calls_of (by kernel_rfl)) (callsW_of (by kernel_rfl)) fun args ⟨i, _⟩ w0 hrd hpre _ => ?_
  obtain ⟨_, _, rfl, rfl, rfl⟩ := hrd
  refine ⟨[.x (.v 0)], [], [], 2, env0 [.int .i64 i] w0, fun b => b, 0, rfl, rfl, fun X hX => mem_none hX rfl, fun X hP hS hw hX hR => ?_⟩
  subst hw; try dsimp only at hR
  rw [vc27 X]
  refine a_plain rfl ?_
  intro b0 hb0 b1 hb1
  rw [ask_lss]
  have bad : (i < 0 ∨ 64 < i) → ∀ u ow bl, Ret X u ow bl (.tuple #[.agg #[.slice none 0 0, .slice none 0 0, .slice none 0 0, .slice none 0 0, .slice none 0 0], J 1]) := fun h u ow bl => hR _ _ _ _ fun w _ => ⟨fun _ => rfl, fun n e hn => by omega⟩
  by_cases h0 : i < 0
  · rw [show decide (i < ((0 : Nat) : Int)) = true by simpa using h0]
    refine a_G_off (condsV1_not (by decide)) fun v => ?_
    rw [ask_pickT]
    exact a_if (fun _ => bad (.inl h0) _ _ _) fun h => by cases h
  rw [show decide (i < ((0 : Nat) : Int)) = false by simpa using h0]
  refine a_G_on condsV1 ?_
  rw [ask_gtr, ask_pickF]
  refine a_ifD (fun h => bad (.inr h) _ _ _) fun h => ?_
  obtain ⟨n, rfl⟩ : ∃ k : Nat, i = k := ⟨i.toNat, by omega⟩
  have hn : n ≤ 64 := by omega
  rw [ask_makeFunc]
  refine call_W hX hS (T := Tba) (f := 61) rfl n (fun w hw => ⟨⟨b0, rfl, ?_⟩, hn⟩) fun v w1 w2 h1 k2 s2 _ hp => ?_
  · have := (hw.blk ⟨b0, true, 3, #[J n]⟩ (by simp [kb27_0])).1
    simp only [if_true] at this
    simp [World.cell?, this]
  obtain ⟨x, y, z, g, h, vs, us, rfl, hg, hh, hf⟩ := hp
  have lo1 : b1 < w1.heap.size := h1.low (by simp [kb27_0])
  refine a_agg (cs := [x, y, z, g, h]) rfl (by simp [own_one hf.1, own_one hf.2.1, own_one hf.2.2.1, slAt_one hg, slAt_one hh]) ?_
  iterate 5 refine a_sel1 rfl ?_
  refine hR _ _ _ _ fun w hw => ⟨fun h => by omega, fun m e hm => ?_⟩
  obtain rfl : n = m := by omega
  have hff := hf.stp hw.stp (all1 lo1)
  obtain ⟨_, _, _, _, _, _, _, fg, fh⟩ := hf
  refine ⟨x, y, z, g, h, vs, us, rfl, hg.stp hw.stp fun q hq hm => ?_, hh.stp hw.stp fun q hq hm => ?_, ?_⟩
  · have := fg q hq; simp at hm; omega
  · have := fh q hq; simp at hm; omega
  · have lo : X.w0.heap.size ≤ w1.heap.size := h1.sz0
    exact ⟨own_mono hff.1 lo, own_mono hff.2.1 lo, own_mono hff.2.2.1 lo, hff.2.2.2.1, hff.2.2.2.2.1, fun i v hv => own_mono (hff.2.2.2.2.2.1 i v hv) lo, fun i v hv => own_mono (hff.2.2.2.2.2.2.1 i v hv) lo, fun q hq => Nat.le_trans lo (fg q hq), fun q hq => Nat.le_trans lo (fh q hq)⟩

/-! ### the document's set -/
def ann79 : Ann := ⟨[(2, ([3], [])), (6, ([4, 5], []))], [112], 70, [], [], none, [], []⟩
def kb79_0 (b0 : Nat) : List KB := [⟨b0, true, 39, #[(J 0), (J 0), (J 0), (J 0), (J 0), (J 0), (J 0), (J 0), (J 0), (J 0), (J 0), (J 0), (J 0), (J 0), (J 0), (J 0), (J 0), (J 0), (J 0), (J 0), (J 0), (U 0), (U 0), (U 0), (U 0), (.slice none 0 0)]⟩]
theorem vc79 (X : Ctx) (β : Nat → Nat) (x0 : Value) : (run Tryd.prog ann79 79 [.x (.v 0)] [] [] 2).den X (env0 [x0] X.w0) 2 β 0 (fun _ _ _ => False) = (
  AskNew X.w0 fun b0 =>
  Ask (rLen X.P 37 x0) fun x2 =>
  ∃ (I0 : List Value → World → Prop) (μ0 : List Value → World → Nat), (∀ w, KnownV X X.w0 [] (kb79_0 b0) w → I0 [x2] w) ∧ ∀ x3 w4, I0 [x3] w4 →
    Ask (rBin X.P .gtr 3 false true x3 (J 0)) fun x5 =>
    AskG [(x5, true)] (rBin X.P .sub 3 false true x3 (J 1)) fun x6 =>
    AskG [(x5, true)] (rIad X.P 37 x0 x6) fun x7 =>
    AskG [(x5, true)] (rLoad X w4 [] 36 x7) fun x8 =>
    AskGF X [(x5, true)] 112 [x8] fun x9 =>
    Ask (rPick x5 x9 (.bool false)) fun x10 =>
    (∃ t, x10 = .bool t) ∧ (x10 = .bool true →
      Ask (rBin X.P .sub 3 false true x3 (J 1)) fun x11 =>
      Again X w4 [] [] fun w => I0 [x11] w ∧ μ0 [x11] w < μ0 [x3] w4) ∧ (x10 = .bool false →
      ∃ (I0 : List Value → World → Prop) (μ0 : List Value → World → Nat), (∀ w, KnownV X w4 [] (kb79_0 b0) w → I0 [(.slice none 0 0), (J 0)] w) ∧ ∀ x11 x12 w13, I0 [x11, x12] w13 →
        Ask (rBin X.P .lss 3 false false x12 x3) fun x14 =>
        (∃ t, x14 = .bool t) ∧ (x14 = .bool true →
          Ask (rIad X.P 37 x0 x12) fun x15 =>
          Ask (rLoad X w13 [] 36 x15) fun x16 =>
          AskO X w13 [] (kb79_0 b0) false (Go.Op.buildSlice 37 1 #[(0, Go.Operand.tmp 29)]) 37 [(29, x16)] fun x17 w17 =>
          AskO X w17 [] (kb79_0 b0) true (appOp (.tmp 25) (.tmp 30) 37) 37 [(25, x11), (30, x17)] fun x18 w18 =>
          Ask (rBin X.P .add 3 false true x12 (J 1)) fun x19 =>
          Again X w18 [] [] fun w => I0 [x18, x19] w ∧ μ0 [x18, x19] w < μ0 [x11, x12] w13) ∧ (x14 = .bool false →
          Ask (rPlain x11) fun x15 =>
          Ask (rPlain x15) fun x16 =>
          Ret X w13 [b0] [] (.agg #[(J 3), (J 0), (J 0), (J 0), (J 0), (J 0), (J 0), (J 0), (J 0), (J 0), (J 0), (J 0), (J 0), (J 0), (J 0), (J 0), (J 0), (J 0), (J 0), (J 0), (J 0), (U 0), (U 0), (U 0), (U 0), x16])))) := by kernel_rfl
/-- The list, without zeros at its end. -/
def trim (l : List Nat) : List Nat := (l.reverse.dropWhile (· == 0)).reverse
def cFreeOf : Contract := fnW (Cods.cons cLS Cods.nil) (fun p _ => p.1.length ≤ mx) (fun p w v w' => ∃ x, v = EL x ∧ w'.ownsRow w.heap.size 36 4 x (trim p.1).length ((trim p.1).flatMap encS))
def Tfo : Table := T0.add 112 cRIsZ
theorem keepTfo : AllKeep Tryd.prog GT Tfo := keepT0.add keepsRIsZ
theorem trim_step {l : List Nat} {k : Nat} (hk : k < l.length) (h0 : l[k] = 0) : trim (l.take (k + 1)) = trim (l.take k) := by
  rw [List.take_succ_eq_append_getElem hk, h0]
  generalize l.take k = r
  simp [trim]
theorem trim_last {l : List Nat} {k : Nat} (hk : k < l.length) (h0 : l[k] ≠ 0) : trim (l.take (k + 1)) = l.take (k + 1) := by
  rw [List.take_succ_eq_append_getElem hk]
  generalize l.take k = r
  generalize l[k] = a at h0
  simp [trim, h0]
theorem keepsFreeOf : Keeps1 Tryd.prog GT 79 cFreeOf := by
  refine keepsW (T := Tfo) (A := ann79) hMix keepTfo hGT (calls_of (by kernel_rfl)) (callsW_of (by kernel_rfl)) fun args ⟨l, _⟩ w0 hrd hpre _ => ?_
  obtain ⟨x, _, rfl, hl, rfl⟩ := hrd
  dsimp only at hl hpre
  refine ⟨[.x (.v 0)], [], [], 2, env0 [x] w0, fun b => b, 0, rfl, rfl, fun X hX => mem_none hX rfl, fun X hP hS hw hX hR => ?_⟩
  subst hw; try dsimp only at hR
  rw [vc79 X]
  replace hl : Ls encS okS X.w0 x l := hl
  intro b0 hb0
  refine a_len hP tyR hl.1 ?_
  refine ⟨fun a w => ∃ k, a = [J k] ∧ k ≤ l.length ∧ trim (l.take k) = trim l ∧ b0 < w.heap.size ∧ Kn X w, fun a _ => match a with | [i] => intNat i | _ => 0, fun w hw => ⟨l.length, rfl, Nat.le_refl _, by rw [List.take_of_length_le (Nat.le_refl _)], hw.low (by simp [kb79_0]), hw.kn⟩, ?_⟩
  rintro _ w ⟨k, he, hk, ht, hbw, hkn⟩
  simp only [List.cons.injEq, and_true] at he
  subst he
  rw [ask_gtrN]
  have fin : trim l = l.take k → ∀ w, b0 < w.heap.size → Kn X w → ∃ (I0 : List Value → World → Prop) (μ0 : List Value → World → Nat), (∀ w2, KnownV X w [] (kb79_0 b0) w2 → I0 [(.slice none 0 0), (J 0)] w2) ∧ ∀ x11 x12 w13, I0 [x11, x12] w13 →
        Ask (rBin X.P .lss 3 false false x12 (J k)) fun x14 =>
        (∃ t, x14 = .bool t) ∧ (x14 = .bool true →
          Ask (rIad X.P 37 x x12) fun x15 =>
          Ask (rLoad X w13 [] 36 x15) fun x16 =>
          AskO X w13 [] (kb79_0 b0) false (Go.Op.buildSlice 37 1 #[(0, Go.Operand.tmp 29)]) 37 [(29, x16)] fun x17 w17 =>
          AskO X w17 [] (kb79_0 b0) true (appOp (.tmp 25) (.tmp 30) 37) 37 [(25, x11), (30, x17)] fun x18 w18 =>
          Ask (rBin X.P .add 3 false true x12 (J 1)) fun x19 =>
          Again X w18 [] [] fun w => I0 [x18, x19] w ∧ μ0 [x18, x19] w < μ0 [x11, x12] w13) ∧ (x14 = .bool false →
          Ask (rPlain x11) fun x15 =>
          Ask (rPlain x15) fun x16 =>
          Ret X w13 [b0] [] (.agg #[(J 3), (J 0), (J 0), (J 0), (J 0), (J 0), (J 0), (J 0), (J 0), (J 0), (J 0), (J 0), (J 0), (J 0), (J 0), (J 0), (J 0), (J 0), (J 0), (J 0), (J 0), (U 0), (U 0), (U 0), (U 0), x16])) := fun htk w hbw hkn => by
    refine ⟨fun a w => ∃ (j B : Nat) (o : Value), a = [o, J j] ∧ j ≤ k ∧ b0 < B ∧ X.w0.heap.size ≤ B ∧ B ≤ w.heap.size ∧ w.ownsRow B 36 4 o j ((l.take j).flatMap encS) ∧ Kn X w, fun a _ => match a with | [_, i] => k - intNat i | _ => 0,
      fun w2 hw2 => ⟨0, w2.heap.size, _, rfl, Nat.zero_le _, by have := hw2.size; omega, hw2.sz0, Nat.le_refl _, World.ownsRow_nil _ _ _ _, hw2.kn⟩, ?_⟩
    rintro o _ w2 ⟨j, B, _, he, hj, hB, hB0, hBw, ho, hkn2⟩
    simp only [List.cons.injEq, and_true] at he
    obtain ⟨rfl, rfl⟩ := he
    rw [ask_lssN]
    refine a_ifD (fun hlt => ?_) fun hge => ?_
    · refine ld_R hP hkn2 (hl.1.stp0 (hkn2.stp0 hX)) rfl rfl (by omega) (fun _ _ => List.not_mem_nil) ?_
      refine a_push (encS l[j]).toArray hX hP tyR rfl rfl (by decide) (by decide) (by decide) (by kernel_rfl) rfl (one_encS' _) rfl hB0 hBw ho (by simp only [maxLen, mx] at *; omega) (by simp only [mx] at *; omega) fun o' w' k' s' ho' _ => ?_
      rw [ask_succ (by simp only [mx] at *; omega)]
      intro w3 hw3
      refine ⟨⟨j + 1, B, o', rfl, hlt, hB, hB0, Nat.le_trans hBw (Nat.le_trans s'.size hw3.size), ?_, hw3.kn⟩, by simp [intNat]; omega⟩
      rw [flat_take l j (by omega)]
      exact own_stp0 ho' hw3.stp
    · obtain rfl : j = k := by omega
      refine a_plain (own_one ho) ?_
      refine a_plain (own_one ho) ?_
      refine hR _ _ _ _ fun w3 hw3 => ⟨o, rfl, ?_⟩
      rw [htk, List.length_take, Nat.min_eq_left hk]
      exact own_mono (own_stp ho hw3.stp (off_own ho (all1 hB))) hB0
  by_cases hk0 : 0 < k
  · rw [decide_eq_true hk0]
    refine a_G_on condsV1 ?_
    rw [ask_subN (by omega) (by simp only [mx] at *; omega)]
    have hk1 : k - 1 < l.length := by omega
    have hl' := hl.1.stp0 (hkn.stp0 hX)
    refine a_G_on condsV1 (a_iadN hP tyR hl' hk1 ?_)
    refine a_G_on condsV1 (a_load_agg (cs := encS l[k - 1]) hkn hl' (by rw [hP]; exact aggR) (by rw [hP]; exact szR) (fun _ _ => List.not_mem_nil) (by simp [encS]) (flat_at encS_len l (k - 1) _ (List.getElem?_eq_getElem hk1)) ?_)
    refine a_GF_on condsV1 (call_PE hS (T := Tfo) (f := 112) rfl l[k - 1] (hl.2 _ (List.getElem_mem _)) ?_)
    rw [ask_pickT]
    refine a_ifD (fun h0 => ?_) fun h0 => ?_
    · rw [ask_subN (by omega) (by simp only [mx] at *; omega)]
      intro w2 hw2
      refine ⟨⟨k - 1, rfl, by omega, ?_, Nat.lt_of_lt_of_le hbw hw2.size, hw2.kn⟩, by simp [intNat]; omega⟩
      rw [← trim_step hk1 h0, show k - 1 + 1 = k by omega]
      exact ht
    · refine fin ?_ w hbw hkn
      rw [← ht]
      have := trim_last hk1 h0
      rwa [show k - 1 + 1 = k by omega] at this
  · obtain rfl : k = 0 := by omega
    rw [decide_eq_false (by omega)]
    iterate 3 refine a_G_off (condsV1_not (by decide)) fun _ => ?_
    refine a_GF_off (condsV1_not (by decide)) fun _ => ?_
    rw [ask_pickF]
    refine a_if (fun h => by cases h) fun _ => ?_
    exact fin (by rw [← ht]; rfl) w hbw hkn

def cJ : Cod Nat := ⟨fun _ v n => v = J n, fun _ _ _ _ h k => J_inj (h.symm.trans k)⟩
theorem trim_unit (k : Nat) : trim (unitL k) = unitL k := by simp [trim, unitL]
def ann64 : Ann := ⟨[], [81], 70, [(79, false)], [], none, [], []⟩
def kb64_0 (b0 : Nat) : List KB := [⟨b0, true, 39, #[(J 0), (J 0), (J 0), (J 0), (J 0), (J 0), (J 0), (J 0), (J 0), (J 0), (J 0), (J 0), (J 0), (J 0), (J 0), (J 0), (J 0), (J 0), (J 0), (J 0), (J 0), (U 0), (U 0), (U 0), (U 0), (.slice none 0 0)]⟩]
theorem vc64 (X : Ctx) (β : Nat → Nat) (x0 : Value) : (run Tryd.prog ann64 64 [.x (.v 0)] [] [] 2).den X (env0 [x0] X.w0) 2 β 0 (fun _ _ _ => False) = (
  AskNew X.w0 fun b0 =>
  Ask (rBin X.P .add 3 false true x0 (J 1)) fun x2 =>
  AskO X X.w0 [] (kb64_0 b0) false (Go.Op.makeSlice 37 (Go.Operand.tmp 5) (Go.Operand.tmp 5)) 37 [(5, x2), (5, x2)] fun x3 w3 =>
  AskF X 81 [(U 1)] fun x4 =>
  Ask (rIad X.P 37 x3 x0) fun x5 =>
  AskO X w3 [] (kb64_0 b0) true (Go.Op.store 36 (Go.Operand.tmp 10) (Go.Operand.tmp 9)) 0 [(10, x5), (9, x4)] fun _ w6 =>
  AskW X w6 [] (kb64_0 b0) false 79 [x3] fun x7 w7 =>
  Ask (rAgg 26 x7) fun x8 =>
  Ret X w7 [b0] [] x8) := by kernel_rfl
def cUnit : Contract := fnW (Cods.cons cJ Cods.nil) (fun p _ => p.1 ≤ 200) (fun p w v w' => ∃ x, v = EL x ∧ Uw 36 w.heap.size w' x p.1)
def Tun : Table := (T0.add 81 cRInt).add 79 cFreeOf
theorem keepTun : AllKeep Tryd.prog GT Tun := (keepT0.add keepsRInt).add keepsFreeOf
theorem keepsUnit : Keeps1 Tryd.prog GT 64 cUnit := by
  refine keepsW (T := Tun) (A := ann64) hMix keepTun hGT (calls_of (by kernel_rfl)) (callsW_of (by kernel_rfl)) fun args ⟨k, _⟩ w0 hrd hpre _ => ?_
  obtain ⟨_, _, rfl, rfl, rfl⟩ := hrd
  dsimp only at hpre
  refine ⟨[.x (.v 0)], [], [], 2, env0 [J k] w0, fun b => b, 0, rfl, rfl, fun X hX => mem_none hX rfl, fun X hP hS hw hX hR => ?_⟩
  subst hw; try dsimp only at hR
  rw [vc64 X]
  intro b0 hb0
  rw [ask_succ (by omega)]
  refine a_make (n := k + 1) hX hP tyR rfl rfl (by omega) (by simp only [maxLen]; omega) fun g w1 w2 h1 k2 s2 _ o2 => ?_
  rw [makeS] at o2
  refine call_PE hS (T := Tun) (f := 81) rfl 1 (show 1 < B64 by decide) ?_
  refine a_iadN hP tyR (own_slAt o2) (by omega) ?_
  have b0w : b0 < w1.heap.size := h1.low (by simp [kb64_0])
  have hg := o2.lt g rfl
  refine a_store (x := S 1) (vs := encS 1) hX hP szR rfl rfl rfl rfl (one_encS 1) o2 h1.sz0 (by omega) (by decide) (fun _ _ => List.not_mem_nil) (fun _ _ q hq => by cases hq; simp [kb64_0]; omega) fun _ w3 w4 h3 k4 s4 su4 o4 => ?_
  rw [lset_flat encS_len 1 _ k (by simp), unit_set] at o4
  refine call_W hX hS (T := Tun) (f := 79) rfl (unitL k, ()) (fun w hw => ⟨⟨_, _, rfl, (⟨by rw [unit_len]; exact (own_slAt o4).stp0 hw.stp, unit_ok k⟩ : Ls encS okS _ _ _), rfl⟩, by rw [unit_len]; simp only [mx]; omega⟩) fun v w5 w6 h5 k6 s6 _ hp => ?_
  obtain ⟨x, rfl, ox⟩ := hp
  dsimp only at ox
  rw [trim_unit, unit_len] at ox
  have b5 : b0 < w5.heap.size := h5.low (by simp [kb64_0])
  refine a_agg (cs := encEL x) rfl (one_encEL (own_one ox)) ?_
  exact hR _ _ _ _ fun w hw => ⟨x, rfl, own_mono (own_stp ox hw.stp (off_own ox (all1 b5))) h5.sz0⟩

/-- The document's set over the lists. -/
def RF (x y z g h : Value) : Value := .agg ([J 3] ++ encEL x ++ encEL y ++ encEL z ++ [g, h]).toArray
def zRF : Value := .agg ([J 0] ++ zE ++ zE ++ zE ++ [Value.slice none 0 0, Value.slice none 0 0]).toArray
theorem oneJ3 : (J 3).oneCell' = true := rfl
section
variable {K : Value → Prop} {x y z g h u : Value}
theorem one_cells (hx : x.oneCell' = true) : x.cells = #[x] := by cases x <;> first | rfl | cases hx
theorem ask_updFG (hx : u.oneCell' = true) : Ask (rUpd (aggArr (RF x y z g h)) 79 1 u) K = K (RF x y z u h) := by
  refine ask_eq fun v => ?_
  have hc := one_cells hx
  have e : RF x y z u h = .agg (splice (aggArr (RF x y z g h)) 79 u.cells.toList) := by rw [hc]; rfl
  unfold rUpd
  rw [e]
  exact ⟨fun h => h.2.2.2, fun h => ⟨by show 79 + 1 ≤ 81; omega, by rw [hc]; rfl, by rw [hc]; simp [hx], h⟩⟩
theorem ask_updFH (hx : u.oneCell' = true) : Ask (rUpd (aggArr (RF x y z g h)) 80 1 u) K = K (RF x y z g u) := by
  refine ask_eq fun v => ?_
  have hc := one_cells hx
  have e : RF x y z g u = .agg (splice (aggArr (RF x y z g h)) 80 u.cells.toList) := by rw [hc]; rfl
  unfold rUpd
  rw [e]
  exact ⟨fun h => h.2.2.2, fun h => ⟨by show 80 + 1 ≤ 81; omega, by rw [hc]; rfl, by rw [hc]; simp [hx], h⟩⟩
theorem ask_aggRF (hx : x.oneCell' = true) (hy : y.oneCell' = true) (hz : z.oneCell' = true) (hg : g.oneCell' = true) (hh : h.oneCell' = true) : Ask (rAgg 81 (RF x y z g h)) K = K (RF x y z g h) :=
  ask_agg rfl (by simp only [List.all_toArray, List.all_append, List.all_cons, List.all_nil, one_encEL hx, one_encEL hy, one_encEL hz, hg, hh, oneJ3, Bool.and_true])
end
def cRBasis : Contract := fnW (Cods.cons cI Cods.nil) (fun _ _ => True) (fun p w v w' => ((p.1 < 0 ∨ 64 < p.1) → v = .tuple #[zRF, J 1]) ∧
  (∀ n : Nat, p.1 = n → n ≤ 64 → ∃ x y z g h vs us, v = .tuple #[RF x y z g h, J 0] ∧ SlAt w' g n (vs.flatMap encEL) ∧ SlAt w' h n (us.flatMap encEL) ∧ FSet 36 w.heap.size w' n x y z g h vs us))
def Trb : Table := T0.add 64 cUnit
theorem keepTrb : AllKeep Tryd.prog GT Trb := keepT0.add keepsUnit
def ann28 : Ann := ⟨[(5, ([5], [1]))], [], 70, [(64, false)], [], none, [], []⟩
def kb28_0 (b0 : Nat) : List KB := [⟨b0, true, 44, #[(J 0), (J 0), (J 0), (J 0), (J 0), (J 0), (J 0), (J 0), (J 0), (J 0), (J 0), (J 0), (J 0), (J 0), (J 0), (J 0), (J 0), (J 0), (J 0), (J 0), (J 0), (J 0), (U 0), (U 0), (U 0), (U 0), (.slice none 0 0), (J 0), (J 0), (J 0), (J 0), (J 0), (J 0), (J 0), (J 0), (J 0), (J 0), (J 0), (J 0), (J 0), (J 0), (J 0), (J 0), (J 0), (J 0), (J 0), (J 0), (J 0), (U 0), (U 0), (U 0), (U 0), (.slice none 0 0), (J 0), (J 0), (J 0), (J 0), (J 0), (J 0), (J 0), (J 0), (J 0), (J 0), (J 0), (J 0), (J 0), (J 0), (J 0), (J 0), (J 0), (J 0), (J 0), (J 0), (J 0), (U 0), (U 0), (U 0), (U 0), (.slice none 0 0), (.slice none 0 0), (.slice none 0 0)]⟩]
def kb28_1 (b0 b1 : Nat) (x9 : Value) : List KB := [⟨b0, true, 44, #[(J 0), (J 0), (J 0), (J 0), (J 0), (J 0), (J 0), (J 0), (J 0), (J 0), (J 0), (J 0), (J 0), (J 0), (J 0), (J 0), (J 0), (J 0), (J 0), (J 0), (J 0), (J 0), (U 0), (U 0), (U 0), (U 0), (.slice none 0 0), (J 0), (J 0), (J 0), (J 0), (J 0), (J 0), (J 0), (J 0), (J 0), (J 0), (J 0), (J 0), (J 0), (J 0), (J 0), (J 0), (J 0), (J 0), (J 0), (J 0), (J 0), (U 0), (U 0), (U 0), (U 0), (.slice none 0 0), (J 0), (J 0), (J 0), (J 0), (J 0), (J 0), (J 0), (J 0), (J 0), (J 0), (J 0), (J 0), (J 0), (J 0), (J 0), (J 0), (J 0), (J 0), (J 0), (J 0), (J 0), (U 0), (U 0), (U 0), (U 0), (.slice none 0 0), (.slice none 0 0), (.slice none 0 0)]⟩, ⟨b1, true, 44, (aggArr x9)⟩]
def kb28_2 (b0 b1 : Nat) (x11 : Value) : List KB := [⟨b0, true, 44, #[(J 0), (J 0), (J 0), (J 0), (J 0), (J 0), (J 0), (J 0), (J 0), (J 0), (J 0), (J 0), (J 0), (J 0), (J 0), (J 0), (J 0), (J 0), (J 0), (J 0), (J 0), (J 0), (U 0), (U 0), (U 0), (U 0), (.slice none 0 0), (J 0), (J 0), (J 0), (J 0), (J 0), (J 0), (J 0), (J 0), (J 0), (J 0), (J 0), (J 0), (J 0), (J 0), (J 0), (J 0), (J 0), (J 0), (J 0), (J 0), (J 0), (U 0), (U 0), (U 0), (U 0), (.slice none 0 0), (J 0), (J 0), (J 0), (J 0), (J 0), (J 0), (J 0), (J 0), (J 0), (J 0), (J 0), (J 0), (J 0), (J 0), (J 0), (J 0), (J 0), (J 0), (J 0), (J 0), (J 0), (U 0), (U 0), (U 0), (U 0), (.slice none 0 0), (.slice none 0 0), (.slice none 0 0)]⟩, ⟨b1, true, 44, (aggArr x11)⟩]
def kb28_3 (b0 b1 : Nat) (x19 : Value) : List KB := [⟨b0, true, 44, #[(J 0), (J 0), (J 0), (J 0), (J 0), (J 0), (J 0), (J 0), (J 0), (J 0), (J 0), (J 0), (J 0), (J 0), (J 0), (J 0), (J 0), (J 0), (J 0), (J 0), (J 0), (J 0), (U 0), (U 0), (U 0), (U 0), (.slice none 0 0), (J 0), (J 0), (J 0), (J 0), (J 0), (J 0), (J 0), (J 0), (J 0), (J 0), (J 0), (J 0), (J 0), (J 0), (J 0), (J 0), (J 0), (J 0), (J 0), (J 0), (J 0), (U 0), (U 0), (U 0), (U 0), (.slice none 0 0), (J 0), (J 0), (J 0), (J 0), (J 0), (J 0), (J 0), (J 0), (J 0), (J 0), (J 0), (J 0), (J 0), (J 0), (J 0), (J 0), (J 0), (J 0), (J 0), (J 0), (J 0), (U 0), (U 0), (U 0), (U 0), (.slice none 0 0), (.slice none 0 0), (.slice none 0 0)]⟩, ⟨b1, true, 44, (aggArr x19)⟩]
theorem vc28 (X : Ctx) (β : Nat → Nat) (x0 : Value) : (run Tryd.prog ann28 28 [.x (.v 0)] [] [] 2).den X (env0 [x0] X.w0) 2 β 0 (fun _ _ _ => False) = (
  AskNew X.w0 fun b0 =>
  Ask (rBin X.P .lss 3 false true x0 (J 0)) fun x2 =>
  AskG [(x2, false)] (rBin X.P .gtr 3 false true x0 (J 64)) fun x3 =>
  Ask (rPick x2 (.bool true) x3) fun x4 =>
  (∃ t, x4 = .bool t) ∧ (x4 = .bool true →
    Ret X X.w0 [b0] [] (.tuple #[(.agg #[(J 0), (J 0), (J 0), (J 0), (J 0), (J 0), (J 0), (J 0), (J 0), (J 0), (J 0), (J 0), (J 0), (J 0), (J 0), (J 0), (J 0), (J 0), (J 0), (J 0), (J 0), (J 0), (U 0), (U 0), (U 0), (U 0), (.slice none 0 0), (J 0), (J 0), (J 0), (J 0), (J 0), (J 0), (J 0), (J 0), (J 0), (J 0), (J 0), (J 0), (J 0), (J 0), (J 0), (J 0), (J 0), (J 0), (J 0), (J 0), (J 0), (U 0), (U 0), (U 0), (U 0), (.slice none 0 0), (J 0), (J 0), (J 0), (J 0), (J 0), (J 0), (J 0), (J 0), (J 0), (J 0), (J 0), (J 0), (J 0), (J 0), (J 0), (J 0), (J 0), (J 0), (J 0), (J 0), (J 0), (U 0), (U 0), (U 0), (U 0), (.slice none 0 0), (.slice none 0 0), (.slice none 0 0)]), (J 1)])) ∧ (x4 = .bool false →
    AskW X X.w0 [] (kb28_0 b0) false 64 [(J 0)] fun x5 w5 =>
    AskW X w5 [] (kb28_0 b0) false 64 [(J 1)] fun x6 w6 =>
    AskW X w6 [] (kb28_0 b0) false 64 [(J 2)] fun x7 w7 =>
    Ask (rBld X.P 44 #[(0, (J 3)), (1, x5), (2, x6), (3, x7)]) fun x8 =>
    AskNew w7 fun b1 =>
    Ask (rAgg 81 x8) fun x9 =>
    ∃ (I0 : List Value → World → Prop) (μ0 : List Value → World → Nat), (∀ w, KnownV X w7 [b1] (kb28_1 b0 b1 x9) w → I0 [(J 0), x9] w) ∧ ∀ x10 x11 w12, I0 [x10, x11] w12 →
      Ask (rBin X.P .lss 3 false false x10 x0) fun x13 =>
      (∃ t, x13 = .bool t) ∧ (x13 = .bool true →
        Ask (rSel (aggArr x11) 79 1 false) fun x14 =>
        Ask (rBin X.P .add 3 true false (J 3) x10) fun x15 =>
        AskW X w12 [] (kb28_2 b0 b1 x11) false 64 [x15] fun x16 w16 =>
        AskO X w16 [] (kb28_2 b0 b1 x11) false (Go.Op.buildSlice 42 1 #[(0, Go.Operand.tmp 26)]) 42 [(26, x16)] fun x17 w17 =>
        AskO X w17 [] (kb28_2 b0 b1 x11) true (appOp (.tmp 23) (.tmp 27) 42) 42 [(23, x14), (27, x17)] fun x18 w18 =>
        Ask (rUpd (aggArr x11) 79 1 x18) fun x19 =>
        Ask (rSel (aggArr x19) 80 1 false) fun x20 =>
        Ask (rBin X.P .add 3 true false (J 3) x0) fun x21 =>
        Ask (rBin X.P .add 3 false false x21 x10) fun x22 =>
        AskW X w18 [b1] (kb28_3 b0 b1 x19) false 64 [x22] fun x23 w23 =>
        AskO X w23 [] (kb28_3 b0 b1 x19) false (Go.Op.buildSlice 42 1 #[(0, Go.Operand.tmp 36)]) 42 [(36, x23)] fun x24 w24 =>
        AskO X w24 [] (kb28_3 b0 b1 x19) true (appOp (.tmp 31) (.tmp 37) 42) 42 [(31, x20), (37, x24)] fun x25 w25 =>
        Ask (rUpd (aggArr x19) 80 1 x25) fun x26 =>
        Ask (rBin X.P .add 3 false true x10 (J 1)) fun x27 =>
        Again X w25 [b1] [] fun w => I0 [x27, x26] w ∧ μ0 [x27, x26] w < μ0 [x10, x11] w12) ∧ (x13 = .bool false →
        Ask (rAgg 81 x11) fun x14 =>
        Ret X w12 [b0] [] (.tuple #[x14, (J 0)])))) := by kernel_rfl
theorem keepsRBasis : Keeps1 Tryd.prog GT 28 cRBasis := by
  refine keepsW (T := Trb) (A := ann28) hMix keepTrb hGT (calls_of (by kernel_rfl)) (callsW_of (by kernel_rfl)) fun args ⟨i, _⟩ w0 hrd hpre _ => ?_
  obtain ⟨_, _, rfl, rfl, rfl⟩ := hrd
  refine ⟨[.x (.v 0)], [], [], 2, env0 [.int .i64 i] w0, fun b => b, 0, rfl, rfl, fun X hX => mem_none hX rfl, fun X hP hS hw hX hR => ?_⟩
  subst hw; try dsimp only at hR
  rw [vc28 X]
  intro b0 hb0
  rw [ask_lss]
  have bad : (i < 0 ∨ 64 < i) → ∀ u ow bl, Ret X u ow bl (.tuple #[zRF, J 1]) := fun h u ow bl => hR _ _ _ _ fun w _ => ⟨fun _ => rfl, fun n e hn => by omega⟩
  by_cases h0 : i < 0
  · rw [show decide (i < ((0 : Nat) : Int)) = true by simpa using h0]
    refine a_G_off (condsV1_not (by decide)) fun v => ?_
    rw [ask_pickT]
    exact a_if (fun _ => bad (.inl h0) _ _ _) fun h => by cases h
  rw [show decide (i < ((0 : Nat) : Int)) = false by simpa using h0]
  refine a_G_on condsV1 ?_
  rw [ask_gtr, ask_pickF]
  refine a_ifD (fun h => bad (.inr h) _ _ _) fun hle => ?_
  obtain ⟨n, rfl⟩ : ∃ k : Nat, i = k := ⟨i.toNat, by omega⟩
  have hn : n ≤ 64 := by omega
  have one : ∀ (k : Nat) (u : World) (ow : List Nat) (bl : List KB) (KW : Value → World → Prop), k ≤ 200 →
      (∀ x w w', KnownV X u ow bl w → Kn X w' → Stp [] w w' → Stp ow u w' → Uw 36 w.heap.size w' x k → KW (EL x) w') → AskW X u ow bl false 64 [J k] KW := fun k u ow bl KW h1 hK => by
    refine call_W hX hS (T := Trb) (f := 64) rfl (k, ()) (fun w hw => ⟨⟨_, _, rfl, rfl, rfl⟩, h1⟩) fun v w w' hw hk hs hsu hp => ?_
    obtain ⟨x, rfl, hx⟩ := hp
    exact hK x w w' hw hk hs hsu hx
  refine one 0 _ _ _ _ (by decide) fun x u1 w1 h1 k1 s1 su1 ox => ?_
  refine one 1 _ _ _ _ (by decide) fun y u2 w2 h2 k2 s2 su2 oy => ?_
  refine one 2 _ _ _ _ (by decide) fun z u3 w3 h3 k3 s3 su3 oz => ?_
  have px := own_one ox; have py := own_one oy; have pz := own_one oz
  refine a_bld ([J 3] ++ encEL x ++ encEL y ++ encEL z ++ [Value.slice none 0 0, Value.slice none 0 0]).toArray hP (by kernel_rfl) ?_
  intro b1 hb1
  have fold : Value.agg ([J 3] ++ encEL x ++ encEL y ++ encEL z ++ [Value.slice none 0 0, Value.slice none 0 0]).toArray = RF x y z (.slice none 0 0) (.slice none 0 0) := rfl
  rw [fold, ask_aggRF px py pz rfl rfl]
  have lo1 : b0 < u1.heap.size := h1.low (by simp [kb28_0])
  have lo2 : b0 < u2.heap.size := h2.low (by simp [kb28_0])
  have lo3 : b0 < u3.heap.size := h3.low (by simp [kb28_0])
  have b01 : b0 < b1 := by have := s3.size; omega
  have unx : Un 36 X.w0.heap.size w3 [b0, b1] x 0 := ⟨own_mono (own_stp0 (own_stp0 ox su2) su3) h1.sz0, fun q h => by have := (ox.lt q h); have := su2.size; have := su3.size; simp; omega⟩
  have uny : Un 36 X.w0.heap.size w3 [b0, b1] y 1 := ⟨own_mono (own_stp0 oy su3) h2.sz0, fun q h => by have := (oy.lt q h); have := su3.size; simp; omega⟩
  have unz : Un 36 X.w0.heap.size w3 [b0, b1] z 2 := ⟨own_mono oz h3.sz0, fun q h => by have := (oz.lt q h); simp; omega⟩
  refine ⟨fun a w => ∃ (k B : Nat) (g h : Value) (vs us : List Value), a = [J k, RF x y z g h] ∧ k ≤ n ∧ b1 < B ∧ X.w0.heap.size ≤ B ∧ B ≤ w.heap.size ∧ vs.length = k ∧ us.length = k ∧
      w.ownsRow B 39 26 g k (vs.flatMap encEL) ∧ w.ownsRow B 39 26 h k (us.flatMap encEL) ∧ (∀ q, g.ownBlock = some q → h.ownBlock ≠ some q) ∧
      Un 36 X.w0.heap.size w [b0, b1] x 0 ∧ Un 36 X.w0.heap.size w [b0, b1] y 1 ∧ Un 36 X.w0.heap.size w [b0, b1] z 2 ∧ Uns 36 X.w0.heap.size w [b0, b1] vs (3 + ·) ∧ Uns 36 X.w0.heap.size w [b0, b1] us (3 + n + ·) ∧ Kn X w,
    fun a _ => match a with | i :: _ => n - intNat i | _ => 0, fun w hw => ?_, ?_⟩
  · have hm : ∀ {v : Value} (g : Nat), v.ownBlock = some g → g ∈ [b1] → g ∈ [b0, b1] := fun g _ h => by simp at h; simp [h]
    exact ⟨0, w.heap.size, _, _, [], [], rfl, Nat.zero_le _, hw.low (by simp [kb28_1]), hw.sz0, Nat.le_refl _, rfl, rfl, World.ownsRow_nil _ _ _ _, World.ownsRow_nil _ _ _ _, (fun _ h => by cases h),
      unx.stp hw.stp hm, uny.stp hw.stp hm, unz.stp hw.stp hm, (fun i v h => by simp at h), (fun i v h => by simp at h), hw.kn⟩
  rintro _ _ w ⟨k, B, g, h, vs, us, he, hk, hB, hB0, hBw, lv, lu, og, oh, hgh, ux, uy, uz, uvs, uus, hkn⟩
  simp only [List.cons.injEq, and_true] at he
  obtain ⟨rfl, rfl⟩ := he
  have og1 := own_one og; have oh1 := own_one oh
  rw [ask_lssN]
  refine a_ifD (fun hlt => ?_) fun hge => ?_
  · refine a_sel1 (v := g) rfl ?_
    rw [ask_addN (by omega)]
    refine one (3 + k) _ _ _ _ (by omega) fun v4 u4 w4 h4 k4 s4 su4 o4 => ?_
    have l4 : b1 < u4.heap.size := by have := h4.size; omega
    have un4 : Un 36 X.w0.heap.size w4 [b0, b1] v4 (3 + vs.length) := ⟨by rw [lv]; exact own_mono o4 h4.sz0, fun q h => by have := (o4.lt q h).1; simp; omega⟩
    replace og := own_stp0 og su4
    have oh4 := own_stp0 oh su4
    replace ux := ux.stp0 su4; replace uy := uy.stp0 su4; replace uz := uz.stp0 su4
    replace uvs := (uvs.stp0 su4).push un4
    replace uus := uus.stp0 su4
    have p4 := own_one o4
    have s4w := su4.size
    refine a_push (encEL v4).toArray hX hP tyE rfl rfl (by decide) (by decide) (by decide) (by kernel_rfl) rfl (by simpa using one_encEL p4) (by rfl) hB0 (by omega) og (by simp only [maxLen]; omega) (by omega) fun g2 w5 k5 s5 og5 hbl5 => ?_
    have p5 := own_one og5
    rw [ask_updFG p5]
    refine a_sel1 (v := h) rfl ?_
    rw [ask_addN (by omega), ask_addN (by omega)]
    have ap : ∀ {v : Value} {j : Nat}, Un 36 X.w0.heap.size w4 [b0, b1] v j → ∀ q, v.ownBlock = some q → q ∈ g.ownBlock.toList → q ∈ [b0, b1] := fun hu q hq hm => absurd hm (own_apart hu.1 og rfl q hq)
    replace ux := ux.stp s5 (ap ux); replace uy := uy.stp s5 (ap uy); replace uz := uz.stp s5 (ap uz)
    have uvs5 := uvs.stp s5 (uvs.apart og rfl)
    have uus5 := uus.stp s5 (uus.apart og rfl)
    have oh5 := own_stp oh4 s5 fun q hq hm => hgh q (by simpa using hm) hq
    have hgh5 : ∀ q, g2.ownBlock = some q → h.ownBlock ≠ some q := fun q hq hh => by
      rcases hbl5 with hb | ⟨r, hb, hr⟩
      · rw [hb] at hq; exact hgh q hq hh
      · rw [hb] at hq; cases hq
        have := (oh4.lt _ hh).2
        omega
    refine one (3 + n + k) _ _ _ _ (by omega) fun v6 u6 w6 h6 k6 s6 su6 o6 => ?_
    have hm : ∀ {v : Value} (g : Nat), v.ownBlock = some g → g ∈ [b1] → g ∈ [b0, b1] := fun g _ h => by simp at h; simp [h]
    have s5w := s5.size
    have s6w := su6.size
    have un6 : Un 36 X.w0.heap.size w6 [b0, b1] v6 (3 + n + us.length) := ⟨by rw [lu]; exact own_mono o6 h6.sz0, fun q h => by have := (o6.lt q h).1; have := h6.size; simp; omega⟩
    have hBb : b1 < B := hB
    have og6 := own_stp og5 su6 (off_own og5 (all1 hBb))
    have oh6 := own_stp oh5 su6 (off_own oh5 (all1 hBb))
    replace ux := ux.stp su6 hm; replace uy := uy.stp su6 hm; replace uz := uz.stp su6 hm
    have uvs6 := uvs5.stp su6 fun _ _ g hg h => hm g hg h
    have uus6 := (uus5.stp su6 fun _ _ g hg h => hm g hg h).push un6
    have p6 := own_one o6
    refine a_push (encEL v6).toArray hX hP tyE rfl rfl (by decide) (by decide) (by decide) (by kernel_rfl) rfl (by simpa using one_encEL p6) (by rfl) hB0 (by omega) oh6 (by simp only [maxLen]; omega) (by omega) fun g3 w7 k7 s7 oh7 hbl7 => ?_
    rw [ask_updFH (own_one oh7), ask_succ (by omega)]
    intro w8 hw8
    have ap7 : ∀ {v : Value} {j : Nat}, Un 36 X.w0.heap.size w6 [b0, b1] v j → ∀ q, v.ownBlock = some q → q ∈ h.ownBlock.toList → q ∈ [b0, b1] := fun hu q hq hm => absurd hm (own_apart hu.1 oh6 rfl q hq)
    have s8w := hw8.size
    have s7w := s7.size
    have og7 := own_stp og6 s7 fun q hq hm => hgh5 q hq (by simpa using hm)
    have hgh7 : ∀ q, g2.ownBlock = some q → g3.ownBlock ≠ some q := fun q hq hh => by
      rcases hbl7 with hb | ⟨r, hb, hr⟩
      · rw [hb] at hh; exact hgh5 q hq hh
      · rw [hb] at hh; cases hh
        have := (og6.lt _ hq).2
        omega
    refine ⟨⟨k + 1, B, g2, g3, vs ++ [v4], us ++ [v6], rfl, hlt, hB, hB0, by omega, by simp [lv], by simp [lu], ?_, ?_, hgh7,
      (ux.stp s7 (ap7 ux)).stp hw8.stp hm, (uy.stp s7 (ap7 uy)).stp hw8.stp hm, (uz.stp s7 (ap7 uz)).stp hw8.stp hm,
      (uvs6.stp s7 (uvs6.apart oh6 rfl)).stp hw8.stp (fun _ _ g hg h => hm g hg h), (uus6.stp s7 (uus6.apart oh6 rfl)).stp hw8.stp (fun _ _ g hg h => hm g hg h), hw8.kn⟩, by simp [intNat]; omega⟩
    · rw [List.flatMap_append]; simpa using own_stp og7 hw8.stp (off_own og7 (all1 hBb))
    · rw [List.flatMap_append]; simpa using own_stp oh7 hw8.stp (off_own oh7 (all1 hBb))
  · obtain rfl : k = n := by omega
    rw [ask_aggRF px py pz og1 oh1]
    have hm : ∀ {v : Value} (g : Nat), v.ownBlock = some g → g ∈ [b0] → g ∈ [b0, b1] := fun g _ h => by simp at h; simp [h]
    have hb0B : b0 < B := by omega
    refine hR _ _ _ _ fun w9 hw9 => ⟨fun h => by omega, fun m e hm' => ?_⟩
    obtain rfl : k = m := by omega
    exact ⟨x, y, z, g, h, vs, us, rfl, (own_slAt og).stp hw9.stp (off_own og (all1 hb0B)), (own_slAt oh).stp hw9.stp (off_own oh (all1 hb0B)), (ux.stp hw9.stp hm).1, (uy.stp hw9.stp hm).1, (uz.stp hw9.stp hm).1, lv, lu,
      fun i v hv => (uvs.stp hw9.stp (fun _ _ g hg h => hm g hg h) i v hv).1, fun i v hv => (uus.stp hw9.stp (fun _ _ g hg h => hm g hg h) i v hv).1, fun q hq => Nat.le_trans hB0 (og.lt q hq).1, fun q hq => Nat.le_trans hB0 (oh.lt q hq).1⟩
#print axioms keepsRBasis
end Go.Vc
