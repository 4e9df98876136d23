/-
  Sets of generators over the scalars, and the document's: contracts.
-/
import Derived.Test.YtoakfcihcmmihaaDoorDSig2
namespace Go.Vc
open Go Go.Proofs Go.RowKit

def ann102 : Ann := ⟨[], [55], 70, [], [1, 2], none, [], []⟩
theorem vc102 (X : Ctx) (β : Nat → Nat) (x0 : Value) : (run Tryd.prog ann102 102 [.x (.v 0)] [] [] 2).den X (env0 [x0] X.w0) 2 β 0 (fun _ _ _ => False) = (
  Ask (rAgg 4 x0) fun x2 =>
  AskNew X.w0 fun _ =>
  Ask (rAgg 4 (.agg #[(U 0), (U 0), (U 0), (U 0)])) fun _ =>
  AskNew X.w0 fun b1 =>
  AskF X 55 [x2] fun x4 =>
  Ask (rAgg 4 x4) fun x5 =>
  Ret X X.w0 [b1] [] x5) := by kernel_rfl
theorem keepsNum09 : Keeps1 Tryd.prog GT 102 cRleast := by
  refine keepsP (T := Tn) (A := ann102) inj1 hMix keepTn hGT (fun f hf => by
      simp only [ann102, List.mem_cons, List.not_mem_nil, or_false] at hf
      subst hf; intros; kernel_rfl) (fun f hf => by cases hf) fun n w0 hn _ => ⟨[.x (.v 0)], [], [], 2, env0 [S n] w0, fun b => b, 0, rfl, rfl, fun X hX => mem_none hX rfl, fun X hP hS hw hX hR => ?_⟩
  subst hw
  rw [vc102 X]
  rw [ask_aggS]; intro _ _
  rw [ask_zero4]; intro _ _
  refine call_PE hS (T := Tn) (f := 55) rfl n hn ?_
  rw [ask_aggS]
  exact hR _ _ _ _ rfl

theorem tyS : ElTy Tryd.prog 59 24 4 32 (.agg #[U 0, U 0, U 0, U 0]) := ⟨by kernel_rfl, by kernel_rfl⟩
theorem aggL : agg? Tryd.prog 26 = some true := by kernel_rfl
theorem szL : sz Tryd.prog 26 = some 4 := by kernel_rfl
theorem aggE : agg? Tryd.prog 39 = some true := by kernel_rfl
theorem szE : sz Tryd.prog 39 = some 26 := by kernel_rfl
theorem one_encS' (n : Nat) : (encS n).toArray.all (·.oneCell') = true := by simpa using one_encS n
theorem one_encE' (n : Nat) : (encE n).toArray.all (·.oneCell') = true := by simpa using one_encE n
/-- What a list may be long. -/
abbrev mx : Nat := 4194304

def ann58 : Ann := ⟨[(3, ([3, 4], []))], [], 70, [], [], none, [], []⟩
theorem vc58 (X : Ctx) (β : Nat → Nat) (x0 : Value) : (run Tryd.prog ann58 58 [.x (.v 0)] [] [] 2).den X (env0 [x0] X.w0) 2 β 0 (fun _ _ _ => False) = (
  ∃ (I0 : List Value → World → Prop) (μ0 : List Value → World → Nat), (∀ w, KnownV X X.w0 [] [] w → I0 [(.slice none 0 0), (J 0)] w) ∧ ∀ x2 x3 w4, I0 [x2, x3] w4 →
    Ask (rLen X.P 59 x0) fun x5 =>
    Ask (rBin X.P .lss 3 false false x3 x5) fun x6 =>
    (∃ t, x6 = .bool t) ∧ (x6 = .bool true →
      Ask (rIad X.P 59 x0 x3) fun x7 =>
      Ask (rLoad X w4 [] 24 x7) fun x8 =>
      Ask (rAgg 4 x8) fun x9 =>
      Ask (rSel (aggArr x9) 0 1 false) fun x10 =>
      Ask (rSel (aggArr x9) 1 1 false) fun x11 =>
      Ask (rSel (aggArr x9) 2 1 false) fun x12 =>
      Ask (rSel (aggArr x9) 3 1 false) fun x13 =>
      AskO X w4 [] [] false (Go.Op.buildSlice 27 1 #[(0, Go.Operand.tmp 16)]) 27 [(16, (.agg #[x10, x11, x12, x13]))] fun x14 w14 =>
      AskO X w14 [] [] true (appOp (.tmp 11) (.tmp 17) 27) 27 [(11, x2), (17, x14)] fun x15 w15 =>
      Ask (rBin X.P .add 3 false true x3 (J 1)) fun x16 =>
      Again X w15 [] [] fun w => I0 [x15, x16] w ∧ μ0 [x15, x16] w < μ0 [x2, x3] w4) ∧ (x6 = .bool false →
      AskO X w4 [] [] false (Go.Op.buildSlice 27 2 #[(0, Go.Operand.tmp 21), (1, Go.Operand.tmp 23)]) 27 [(21, (.agg #[(U 91), (U 0), (U 0), (U 0)])), (23, (.agg #[(U 92), (U 0), (U 0), (U 0)]))] fun x7 w7 =>
      AskO X w7 [] [] true (appOp (.tmp 19) (.tmp 24) 27) 27 [(19, x2), (24, x7)] fun x8 w8 =>
      Ret X w8 [] [] x8)) := by kernel_rfl
def cLines : Contract := fnW (Cods.cons cLS Cods.nil) (fun p _ => p.1.length ≤ mx) (fun p w v w' => w'.ownsRow w.heap.size 26 4 v (p.1.length + 2) ((p.1 ++ [91, 92]).flatMap encS))
theorem ok91 : ∀ x ∈ [91, 92], okS x := fun x hx => by
  simp only [List.mem_cons, List.not_mem_nil, or_false] at hx
  rcases hx with rfl | rfl <;> (unfold okS; decide)
theorem flat_take (l : List Nat) (k : Nat) (h : k < l.length) : (l.take (k + 1)).flatMap encS = (l.take k).flatMap encS ++ encS l[k] := by
  rw [List.take_succ_eq_append_getElem h, List.flatMap_append]; simp
theorem flat_takeE (l : List Nat) (k : Nat) (h : k < l.length) : (l.take (k + 1)).flatMap encE = (l.take k).flatMap encE ++ encE l[k] := by
  rw [List.take_succ_eq_append_getElem h, List.flatMap_append]; simp
theorem keepsLines : Keeps1 Tryd.prog GT 58 cLines := by
  refine keepsW (T := T0) (A := ann58) hMix keepT0 hGT (fun f hf => by cases hf) (fun f hf => by cases hf) fun args ⟨l, _⟩ w0 hrd hpre _ => ?_
  obtain ⟨x, _, rfl, hl, rfl⟩ := hrd
  dsimp only at hl hpre
  refine ⟨[.x (.v 0)], [], [], 2, env0 [x] w0, fun b => b, 0, rfl, rfl, fun X hX => mem_none hX rfl, fun X hP hS hw hX hR => ?_⟩
  subst hw; dsimp only at hR
  replace hl : Ls encS okS X.w0 x l := hl
  replace hl := hl.1
  rw [vc58 X]
  refine ⟨fun a w => ∃ (k : Nat) (o : Value), a = [o, J k] ∧ k ≤ l.length ∧ w.ownsRow X.w0.heap.size 26 4 o k ((l.take k).flatMap encS) ∧ Kn X w, fun a _ => match a with | [_, i] => l.length - intNat i | _ => 0, fun w hw => ⟨0, _, rfl, Nat.zero_le _, World.ownsRow_nil _ _ _ _, hw.kn⟩, ?_⟩
  rintro _ _ w ⟨k, o, he, hk, ho, hkn⟩
  simp only [List.cons.injEq, and_true] at he
  obtain ⟨rfl, rfl⟩ := he
  refine a_len hP tyS hl ?_
  rw [ask_lssN]
  refine a_ifD (fun hlt => ?_) fun hge => ?_
  · have hl' := hl.stp0 (hkn.stp0 hX)
    have hka : l[k]? = some l[k] := List.getElem?_eq_getElem hlt
    refine a_iadN hP tyS hl' hlt ?_
    refine a_load_agg (cs := encS l[k]) hkn hl' (by rw [hP]; exact aggS) (by rw [hP]; exact szS) (fun _ _ => List.not_mem_nil) (by simp [encS]) (flat_at encS_len l k _ hka) ?_
    rw [agg_encS, ask_aggS, ask_selS0, ask_selS1, ask_selS2, ask_selS3]
    refine a_push (encS l[k]).toArray hX hP tyL rfl rfl (by decide) (by decide) (by decide) (by kernel_rfl) rfl (one_encS' _) rfl (Nat.le_refl _) hkn.sz0 ho (by simp only [maxLen, mx] at *; omega) (by simp only [mx] at *; omega) fun o' w' k' _ ho' _ => ?_
    rw [ask_succ (by simp only [mx] at *; omega)]
    intro w2 hw2
    refine ⟨⟨k + 1, o', rfl, hlt, ?_, hw2.kn⟩, by simp [intNat]; omega⟩
    rw [flat_take l k hlt]
    exact own_stp0 ho' hw2.stp
  · obtain rfl : k = l.length := by omega
    rw [List.take_of_length_le (Nat.le_refl _)] at ho
    refine a_push (encS 91 ++ encS 92).toArray hX hP tyL rfl rfl (by decide) (by decide) (by decide) (by kernel_rfl) rfl (by simp [encS, U, Value.oneCell']) rfl (Nat.le_refl _) hkn.sz0 ho (by simp only [maxLen, mx] at *; omega) (by simp only [mx] at *; omega) fun o' w' k' _ ho' _ => ?_
    refine hR _ _ _ _ fun w2 hw2 => ?_
    rw [List.flatMap_append]
    exact own_stp0 ho' hw2.stp

def ann59 : Ann := ⟨[], [102, 9], 70, [], [3], none, [], []⟩
theorem vc59 (X : Ctx) (β : Nat → Nat) (x0 : Value) : (run Tryd.prog ann59 59 [.x (.c (J 2)), .x (.v 0)] [] [] 2).den X (env0 [x0] X.w0) 2 β 0 (fun _ _ _ => False) = (
  Ask (rAgg 4 x0) fun x2 =>
  AskNew X.w0 fun _ =>
  AskNew X.w0 fun b1 =>
  AskF X 102 [x2] fun x3 =>
  AskF X 9 [x3] fun x4 =>
  Ask (rAgg 26 x4) fun x5 =>
  Ret X X.w0 [b1] [] x5) := by kernel_rfl
def cIts : Contract := fnP (fun n : Nat => [J 2, S n]) (· < W256) (fun n v => v = E (n % lN))
def Tits : Table := (T0.add 102 cRleast).add 9 cLineOfS
theorem keepTits : AllKeep Tryd.prog GT Tits := (keepT0.add keepsNum09).add keepsLineOf
theorem keepsIts : Keeps1 Tryd.prog GT 59 cIts := by
  refine keepsP (T := Tits) (A := ann59) (fun a b ha hb h => S_inj ha hb (by simpa using h)) hMix keepTits hGT (fun f hf => by
      simp only [ann59, List.mem_cons, List.not_mem_nil, or_false] at hf
      rcases hf with rfl | rfl <;> intros <;> kernel_rfl) (fun f hf => by cases hf) fun n w0 hn _ => ⟨[.x (.c (J 2)), .x (.v 0)], [], [], 2, env0 [S n] w0, fun b => b, 0, rfl, rfl, fun X hX => mem_none hX rfl, fun X hP hS hw hX hR => ?_⟩
  subst hw
  rw [vc59 X]
  rw [ask_aggS]; intro _ _ _ _
  refine call_PE hS (T := Tits) (f := 102) rfl n hn ?_
  refine call_PE hS (T := Tits) (f := 9) rfl (n % lN) (lm_lt n) ?_
  rw [ask_aggE]
  exact hR _ _ _ _ rfl

def ann60 : Ann := ⟨[], [], 70, [], [], none, [], []⟩
theorem vc60 (X : Ctx) (β : Nat → Nat) (x0 : Value) : (run Tryd.prog ann60 60 [.x (.v 0)] [] [] 2).den X (env0 [x0] X.w0) 2 β 0 (fun _ _ _ => False) = (
  AskO X X.w0 [] [] true (appOp (.const (.slice none 0 0)) (.tmp 3) 27) 27 [(3, x0)] fun x2 w2 =>
  Ret X w2 [] [] x2) := by kernel_rfl
def cCopied : Contract := fnW (Cods.cons cLS Cods.nil) (fun p _ => p.1.length ≤ mx) (fun p w v w' => w'.ownsRow w.heap.size 26 4 v p.1.length (p.1.flatMap encS))
theorem flat_one {α : Type} {enc : α → List Value} (h : ∀ x, (enc x).all (·.oneCell') = true) (l : List α) : ∀ c ∈ l.flatMap enc, c.oneCell' = true := fun c hc => by
  obtain ⟨x, _, hx⟩ := List.mem_flatMap.1 hc
  exact List.all_eq_true.1 (h x) c hx
theorem keepsCopied : Keeps1 Tryd.prog GT 60 cCopied := by
  refine keepsW (T := T0) (A := ann60) hMix keepT0 hGT (fun f hf => by cases hf) (fun f hf => by cases hf) fun args ⟨l, _⟩ w0 hrd hpre _ => ?_
  obtain ⟨x, _, rfl, hl, rfl⟩ := hrd
  dsimp only at hl hpre
  refine ⟨[.x (.v 0)], [], [], 2, env0 [x] w0, fun b => b, 0, rfl, rfl, fun X hX => mem_none hX rfl, fun X hP hS hw hX hR => ?_⟩
  subst hw; dsimp only at hR
  rw [vc60 X]
  replace hl : Ls encS okS X.w0 x l := hl
  refine a_append hX hP tyL (v := .slice none 0 0) (x := x) rfl rfl rfl (by decide) (Nat.le_refl _) (Nat.le_refl _) (World.ownsRow_nil _ _ _ _) (fun w hw => hl.1.stp0 hw.stp) (flat_len encS_len l) (flat_one one_encS l) (fun _ h => by cases h) (fun _ _ _ h => by cases h)
    (by simp only [maxLen, mx] at *; omega) (by simp only [mx] at *; omega) fun v w w' _ _ _ _ ho _ => ?_
  refine hR _ _ _ _ fun w2 hw2 => ?_
  simpa using own_stp0 ho hw2.stp

/-! ### sets with their lists -/
def cSetL : Cod (Nat × Nat × Nat × List Nat × List Nat) := ⟨fun w v p => ∃ g h, v = SetV p.1 p.2.1 p.2.2.1 g h ∧ okS p.1 ∧ okS p.2.1 ∧ okS p.2.2.1 ∧ cLS.rd w g p.2.2.2.1 ∧ cLS.rd w h p.2.2.2.2, fun w v ⟨b, bl, q, G, H⟩ ⟨b', bl', q', G', H'⟩ ⟨g, h, e, o1, o2, o3, hg, hh⟩ ⟨g', h', e', o1', o2', o3', hg', hh'⟩ => by
  have := cSet.inj w v (b, bl, q, g, h) (b', bl', q', g', h') ⟨e, o1, o2, o3, slAt_one hg.1, slAt_one hh.1⟩ ⟨e', o1', o2', o3', slAt_one hg'.1, slAt_one hh'.1⟩
  simp only [Prod.mk.injEq] at this
  obtain ⟨rfl, rfl, rfl, rfl, rfl⟩ := this
  have e1 := cLS.inj _ _ _ _ hg hg'
  have e2 := cLS.inj _ _ _ _ hh hh'
  simp only at e1 e2
  rw [e1, e2]⟩
def cRSetL : Cod (Nat × Nat × Nat × List Nat × List Nat) := ⟨fun w v p => ∃ g h, v = RSetV p.1 p.2.1 (encE p.2.2.1) g h ∧ okS p.1 ∧ okS p.2.1 ∧ okS p.2.2.1 ∧ cLE.rd w g p.2.2.2.1 ∧ cLE.rd w h p.2.2.2.2, fun w v ⟨b, bl, q, G, H⟩ ⟨b', bl', q', G', H'⟩ ⟨g, h, e, o1, o2, o3, hg, hh⟩ ⟨g', h', e', o1', o2', o3', hg', hh'⟩ => by
  have := cRSet.inj w v (b, bl, encE q, g, h) (b', bl', encE q', g', h') ⟨e, o1, o2, rfl, one_encE _, slAt_one hg.1, slAt_one hh.1⟩ ⟨e', o1', o2', rfl, one_encE _, slAt_one hg'.1, slAt_one hh'.1⟩
  simp only [Prod.mk.injEq] at this
  obtain ⟨rfl, rfl, hq, rfl, rfl⟩ := this
  have e0 : q = q' := encE_inj o3 o3' hq
  have e1 := cLE.inj _ _ _ _ hg hg'
  have e2 := cLE.inj _ _ _ _ hh hh'
  simp only at e1 e2
  rw [e0, e1, e2]⟩

def ann18 : Ann := ⟨[], [], 70, [(58, false)], [], none, [], []⟩
def kb18_0 (b0 b1 : Nat) (x3 x4 x5 x6 x7 x8 x9 x10 x11 x12 x13 x14 x15 x16 : Value) : List KB := [⟨b0, true, 61, #[x3, x4, x5, x6, x7, x8, x9, x10, x11, x12, x13, x14, x15, x16]⟩, ⟨b1, true, 29, #[(U 0), (U 0), (U 0), (U 0), (U 0), (U 0), (U 0), (U 0), (U 0), (U 0), (U 0), (U 0), (.slice none 0 0), (.slice none 0 0)]⟩]
theorem vc18 (X : Ctx) (β : Nat → Nat) (x0 : Value) : (run Tryd.prog ann18 18 [.x (.v 0)] [] [] 2).den X (env0 [x0] X.w0) 2 β 0 (fun _ _ _ => False) = (
  Ask (rAgg 14 x0) fun x2 =>
  Ask (rSel (aggArr x2) 0 1 false) fun x3 =>
  Ask (rSel (aggArr x2) 1 1 false) fun x4 =>
  Ask (rSel (aggArr x2) 2 1 false) fun x5 =>
  Ask (rSel (aggArr x2) 3 1 false) fun x6 =>
  Ask (rSel (aggArr x2) 4 1 false) fun x7 =>
  Ask (rSel (aggArr x2) 5 1 false) fun x8 =>
  Ask (rSel (aggArr x2) 6 1 false) fun x9 =>
  Ask (rSel (aggArr x2) 7 1 false) fun x10 =>
  Ask (rSel (aggArr x2) 8 1 false) fun x11 =>
  Ask (rSel (aggArr x2) 9 1 false) fun x12 =>
  Ask (rSel (aggArr x2) 10 1 false) fun x13 =>
  Ask (rSel (aggArr x2) 11 1 false) fun x14 =>
  Ask (rSel (aggArr x2) 12 1 false) fun x15 =>
  Ask (rSel (aggArr x2) 13 1 false) fun x16 =>
  AskNew X.w0 fun b0 =>
  AskNew X.w0 fun b1 =>
  AskW X X.w0 [] (kb18_0 b0 b1 x3 x4 x5 x6 x7 x8 x9 x10 x11 x12 x13 x14 x15 x16) false 58 [x15] fun x17 w17 =>
  AskW X w17 [] (kb18_0 b0 b1 x3 x4 x5 x6 x7 x8 x9 x10 x11 x12 x13 x14 x15 x16) false 58 [x16] fun x18 w18 =>
  Ask (rLen X.P 59 x15) fun x19 =>
  Ask (rSlc X.P 27 x17 none (some x19) none) fun x20 =>
  Ask (rLen X.P 59 x16) fun x21 =>
  Ask (rSlc X.P 27 x18 none (some x21) none) fun x22 =>
  Ask (rPlain x20) fun x23 =>
  Ask (rPlain x22) fun x24 =>
  Ask (rPlain x3) fun x25 =>
  Ask (rPlain x4) fun x26 =>
  Ask (rPlain x5) fun x27 =>
  Ask (rPlain x6) fun x28 =>
  Ask (rPlain x7) fun x29 =>
  Ask (rPlain x8) fun x30 =>
  Ask (rPlain x9) fun x31 =>
  Ask (rPlain x10) fun x32 =>
  Ask (rPlain x11) fun x33 =>
  Ask (rPlain x12) fun x34 =>
  Ask (rPlain x13) fun x35 =>
  Ask (rPlain x14) fun x36 =>
  Ask (rPlain x23) fun x37 =>
  Ask (rPlain x24) fun x38 =>
  Ret X w18 [b1] [] (.tuple #[(.agg #[x25, x26, x27, x28, x29, x30, x31, x32, x33, x34, x35, x36, x37, x38]), x17, x18])) := by kernel_rfl
def cLine : Contract := fnW (Cods.cons cSetL Cods.nil) (fun p _ => p.1.2.2.2.1.length ≤ mx ∧ p.1.2.2.2.2.length ≤ mx)
  (fun p _ v w' => ∃ g h g' h', v = .tuple #[SetV p.1.1 p.1.2.1 p.1.2.2.1 g' h', g, h] ∧ cLS.rd w' g' p.1.2.2.2.1 ∧ cLS.rd w' h' p.1.2.2.2.2 ∧ cLS.rd w' g (p.1.2.2.2.1 ++ [91, 92]) ∧ cLS.rd w' h (p.1.2.2.2.2 ++ [91, 92]))
def Tln : Table := T0.add 58 cLines
theorem keepTln : AllKeep Tryd.prog GT Tln := keepT0.add keepsLines
theorem ok_marks {l : List Nat} (h : ∀ x ∈ l, okS x) : ∀ x ∈ l ++ [91, 92], okS x := fun x hx => (List.mem_append.1 hx).elim (h x) (ok91 x)
/-- The first ones of a list. -/
theorem sub_first {w : World} {v : Value} {l m : List Nat} (h : SlAt w v (l.length + m.length) ((l ++ m).flatMap encS)) : SlAt w (SubV v 0 l.length 4) l.length (l.flatMap encS) := by
  have := slAt_sub (s := 4) h (Nat.zero_le _) (show l.length ≤ l.length + m.length by omega)
  rw [Nat.sub_zero, Nat.zero_mul, List.drop_zero, List.flatMap_append, take_app (flat_len encS_len l)] at this
  exact this
theorem keepsLine : Keeps1 Tryd.prog GT 18 cLine := by
  refine keepsW (T := Tln) (A := ann18) hMix keepTln hGT (fun f hf => by cases hf) (fun f hf => by
      simp only [ann18, List.mem_cons, List.not_mem_nil, or_false] at hf
      subst hf; intros; kernel_rfl) fun args ⟨⟨b, bl, q, G, H⟩, _⟩ w0 hrd hpre _ => ?_
  obtain ⟨_, _, rfl, ⟨g, h, rfl, ob, obl, oq, hg, hh⟩, rfl⟩ := hrd
  dsimp only at hpre ob obl oq hg hh
  refine ⟨[.x (.v 0)], [], [], 2, env0 [SetV b bl q g h] w0, fun b => b, 0, rfl, rfl, fun X hX => mem_none hX rfl, fun X hP hS hw hX hR => ?_⟩
  subst hw; dsimp only at hR
  replace hg : Ls encS okS X.w0 g G := hg
  replace hh : Ls encS okS X.w0 h H := hh
  rw [vc18 X]
  refine a_agg rfl (by simp [one_encS, slAt_one hg.1, slAt_one hh.1]) ?_
  iterate 14 refine a_sel1 rfl ?_
  intro b0 _ b1 _
  refine call_W hX hS (T := Tln) (f := 58) rfl (G, ()) (fun w hw => ⟨⟨_, _, rfl, cLS_stable _ _ _ _ hw.stp hg, rfl⟩, hpre.1⟩) fun v1 w1 u1 h1 k1 _ s1 o1 => ?_
  dsimp only at o1
  refine call_W hX hS (T := Tln) (f := 58) rfl (H, ()) (fun w hw => ⟨⟨_, _, rfl, cLS_stable _ _ _ _ (s1.trans0 hw.stp) hh, rfl⟩, hpre.2⟩) fun v2 w2 u2 h2 k2 _ s2 o2 => ?_
  dsimp only at o2
  refine a_len hP tyS hg.1 ?_
  refine a_slcH hP tyL (own_slAt o1) (by omega) ?_
  refine a_len hP tyS hh.1 ?_
  refine a_slcH hP tyL (own_slAt o2) (by omega) ?_
  have e1 := sub_first (m := [91, 92]) (own_slAt o1)
  have e2 := sub_first (m := [91, 92]) (own_slAt o2)
  refine a_plain (slAt_one e1) ?_
  refine a_plain (slAt_one e2) ?_
  iterate 12 refine a_plain rfl ?_
  refine a_plain (slAt_one e1) ?_
  refine a_plain (slAt_one e2) ?_
  refine hR _ _ _ _ fun w hw => ?_
  have l1 := all1 (p := (· < w1.heap.size)) (h1.low (b := b1) (by simp [kb18_0]))
  have l2 := all1 (p := (· < w2.heap.size)) (h2.low (b := b1) (by simp [kb18_0]))
  have n1 : ∀ x, v1.ownBlock = some x → x ∉ [b1] := off_own o1 l1
  have n2 : ∀ x, v2.ownBlock = some x → x ∉ [b1] := off_own o2 l2
  exact ⟨v1, v2, SubV v1 0 G.length 4, SubV v2 0 H.length 4, rfl, ⟨(e1.stp0 s2).stp hw.stp (by rw [sub_own]; exact n1), hg.2⟩, ⟨e2.stp hw.stp (by rw [sub_own]; exact n2), hh.2⟩,
    ⟨by rw [List.length_append]; exact ((own_slAt o1).stp0 s2).stp hw.stp n1, ok_marks hg.2⟩, ⟨by rw [List.length_append]; exact (own_slAt o2).stp hw.stp n2, ok_marks hh.2⟩⟩
end Go.Vc
