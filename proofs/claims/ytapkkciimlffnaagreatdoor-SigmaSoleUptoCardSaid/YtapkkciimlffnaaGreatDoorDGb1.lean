/-
  Sums of terms over Line: Add, Times, Plain, sum, Commit; alive.
-/
import Derived.Test.YtapkkciimlffnaaGreatDoorDFr9
namespace Go.Vc
open Go Go.Proofs Go.RowKit

theorem ask_makeI {P : Program} {K : Value → Prop} {t a ty : Nat} {x : Value} (h : ∀ w, (Instr.makeInterface t x).run P w = .ok (.iface t x) w) : Ask (rGen P (.makeInterface t (.tmp a)) ty [(a, x)]) K = K (.iface t x) :=
  ask_eq (runsN_iff fun w => by simp [execOp, argsFn, h])

/-! ### Line -/
def Tgl : Table := ((T0.add 21 cAddS).add 49 cMulS)
theorem keepTgl : AllKeep Tryz.prog GT Tgl := (keepT0.add keepsAdd).add keepsMul
def ann23 : Ann := ⟨[], [21], 70, [], [2, 3, 4], none, [], []⟩
theorem vc23 (X : Ctx) (β : Nat → Nat) (x0 x1 : Value) : (run Tryz.prog ann23 23 [.x (.v 0), .x (.v 1)] [] [] 3).den X (env0 [x0, x1] X.w0) 3 β 0 (fun _ _ _ => False) = (
  Ask (rAgg 4 x0) fun x3 =>
  AskNew X.w0 fun _ =>
  Ask (rAgg 4 x1) fun x4 =>
  AskNew X.w0 fun _ =>
  Ask (rAgg 4 (.agg #[(U 0), (U 0), (U 0), (U 0)])) fun _ =>
  AskNew X.w0 fun b2 =>
  AskF X 21 [x3, x4] fun x6 =>
  Ask (rAgg 4 x6) fun x7 =>
  Ask (rSel (aggArr x7) 0 1 false) fun x8 =>
  Ask (rSel (aggArr x7) 1 1 false) fun x9 =>
  Ask (rSel (aggArr x7) 2 1 false) fun x10 =>
  Ask (rSel (aggArr x7) 3 1 false) fun x11 =>
  Ask (rAgg 4 (.agg #[x8, x9, x10, x11])) fun x12 =>
  Ret X X.w0 [b2] [] x12) := by kernel_rfl
def ann188 : Ann := ⟨[], [49], 70, [], [2, 3, 4], none, [], []⟩
theorem vc188 (X : Ctx) (β : Nat → Nat) (x0 x1 : Value) : (run Tryz.prog ann188 188 [.x (.v 0), .x (.v 1)] [] [] 3).den X (env0 [x0, x1] X.w0) 3 β 0 (fun _ _ _ => False) = (
  Ask (rAgg 4 x0) fun x3 =>
  AskNew X.w0 fun _ =>
  Ask (rAgg 4 x1) fun x4 =>
  AskNew X.w0 fun _ =>
  Ask (rAgg 4 (.agg #[(U 0), (U 0), (U 0), (U 0)])) fun _ =>
  AskNew X.w0 fun b2 =>
  AskF X 49 [x3, x4] fun x6 =>
  Ask (rAgg 4 x6) fun x7 =>
  Ask (rSel (aggArr x7) 0 1 false) fun x8 =>
  Ask (rSel (aggArr x7) 1 1 false) fun x9 =>
  Ask (rSel (aggArr x7) 2 1 false) fun x10 =>
  Ask (rSel (aggArr x7) 3 1 false) fun x11 =>
  Ask (rAgg 4 (.agg #[x8, x9, x10, x11])) fun x12 =>
  Ret X X.w0 [b2] [] x12) := by kernel_rfl
theorem foldSg (n : Nat) : Value.agg #[U (lb n 0), U (lb n 1), U (lb n 2), U (lb n 3)] = S n := rfl
theorem keepsGAdd : Keeps1 Tryz.prog GT 23 cAddS := by
  refine keepsP (T := Tgl) (A := ann23) inj2 hMix keepTgl hGT (calls_of (by kernel_rfl)) (callsW_of (by kernel_rfl)) fun ⟨a, b⟩ w0 ⟨ha, hb⟩ _ => ⟨[.x (.v 0), .x (.v 1)], [], [], 3, env0 [S a, S b] w0, fun b => b, 0, rfl, rfl, fun X hX => mem_none hX rfl, fun X hP hS hw hX hR => ?_⟩
  subst hw
  rw [vc23 X]
  dsimp only at ha hb hR
  rw [ask_aggS]; intro _ _; rw [ask_aggS]; intro _ _; rw [ask_zero4]; intro _ _
  refine call_PE hS (T := Tgl) (f := 21) rfl (a, b) ⟨ha, hb⟩ ?_
  dsimp only
  rw [ask_aggS, ask_selS0, ask_selS1, ask_selS2, ask_selS3, foldSg, ask_aggS]
  exact hR _ _ _ _ rfl
theorem keepsGTimes : Keeps1 Tryz.prog GT 188 cMulS := by
  refine keepsP (T := Tgl) (A := ann188) inj2 hMix keepTgl hGT (calls_of (by kernel_rfl)) (callsW_of (by kernel_rfl)) fun ⟨a, b⟩ w0 ⟨ha, hb⟩ _ => ⟨[.x (.v 0), .x (.v 1)], [], [], 3, env0 [S a, S b] w0, fun b => b, 0, rfl, rfl, fun X hX => mem_none hX rfl, fun X hP hS hw hX hR => ?_⟩
  subst hw
  rw [vc188 X]
  dsimp only at ha hb hR
  rw [ask_aggS]; intro _ _; rw [ask_aggS]; intro _ _; rw [ask_zero4]; intro _ _
  refine call_PE hS (T := Tgl) (f := 49) rfl (a, b) ⟨ha, hb⟩ ?_
  dsimp only
  rw [ask_aggS, ask_selS0, ask_selS1, ask_selS2, ask_selS3, foldSg, ask_aggS]
  exact hR _ _ _ _ rfl
theorem methLTimes (a k : Nat) : Meth Tryz.prog (.iface 48 (S a)) "Times" [S k] 188 [S a, S k] := fun w => by kernel_rfl
theorem methLAdd (a k : Nat) : Meth Tryz.prog (.iface 48 (S a)) "Add" [S k] 23 [S a, S k] := fun w => by kernel_rfl
theorem makeIL (x : Value) (w : World) : (Instr.makeInterface 48 x).run Tryz.prog w = .ok (.iface 48 x) w := by kernel_rfl

/-! ### terms -/
def okT (p : Nat × Nat) : Prop := okS p.1 ∧ okS p.2
theorem encT_inj {a b : Nat × Nat} (ha : okT a) (hb : okT b) (h : encT a = encT b) : a = b := by
  obtain ⟨h1, h2⟩ := List.append_inj h rfl
  exact Prod.ext (encS_inj ha.1 hb.1 h1) (encS_inj ha.2 hb.2 h2)
def cTL : Cod (List (Nat × Nat)) := cL encT okT 8 encT_len (fun _ _ ha hb h => encT_inj ha hb h)
def stepL (s : Nat) (t : Nat × Nat) : Nat := (s + t.2 * t.1 % lN) % lN
def plainL (ts : List (Nat × Nat)) : Nat := ts.foldl stepL 0
theorem foldl_take {α β : Type} (f : β → α → β) (b : β) (l : List α) (i : Nat) (h : i < l.length) : (l.take (i + 1)).foldl f b = f ((l.take i).foldl f b) l[i] := by
  rw [List.take_add_one, List.getElem?_eq_getElem h, List.foldl_append]; rfl
theorem plainL_lt (ts : List (Nat × Nat)) : ∀ s, s < W256 → ts.foldl stepL s < W256 := by
  induction ts with
  | nil => intro s h; exact h
  | cons t r ih => intro s _; exact ih _ (Nat.lt_trans (Nat.mod_lt _ (by decide)) (by decide))
def cPlainL : Contract := fnW (Cods.cons cTL Cods.nil) (fun p _ => p.1.length ≤ mx) (fun p _ v _ => v = S (plainL p.1))
def Tgp : Table := (T0.add 188 cMulS).add 23 cAddS
theorem keepTgp : AllKeep Tryz.prog GT Tgp := (keepT0.add keepsGTimes).add keepsGAdd
def ann93 : Ann := ⟨[(3, ([8], [1]))], [], 70, [], [2, 3], none, [], []⟩
def kb93_0 (b0 b1 : Nat) (x2 x3 : Value) : List KB := [⟨b0, true, 48, (aggArr x2)⟩, ⟨b1, true, 48, (aggArr x3)⟩]
theorem vc93 (X : Ctx) (β : Nat → Nat) (x0 : Value) : (run Tryz.prog ann93 93 [.x (.v 0)] [] [] 2).den X (env0 [x0] X.w0) 2 β 0 (fun _ _ _ => False) = (
  Ask (rAgg 4 (.agg #[(U 0), (U 0), (U 0), (U 0)])) fun x2 =>
  AskNew X.w0 fun b0 =>
  Ask (rAgg 4 (.agg #[(U 0), (U 0), (U 0), (U 0)])) fun x3 =>
  AskNew X.w0 fun b1 =>
  Ask (rLen X.P 112 x0) fun x4 =>
  ∃ (I0 : List Value → World → Prop) (μ0 : List Value → World → Nat), (∀ w, KnownV X X.w0 [] (kb93_0 b0 b1 x2 x3) w → I0 [(J 0), x3] w) ∧ ∀ x5 x6 w7, I0 [x5, x6] w7 →
    Ask (rBin X.P .lss 3 false false x5 x4) fun x8 =>
    (∃ t, x8 = .bool t) ∧ (x8 = .bool true →
      Ask (rIad X.P 112 x0 x5) fun x9 =>
      Ask (rLoad X w7 [] 111 x9) fun x10 =>
      AskNew w7 fun b2 =>
      Ask (rAgg 8 x10) fun x11 =>
      Ask (rSel (aggArr x11) 0 1 false) fun x12 =>
      Ask (rSel (aggArr x11) 1 1 false) fun x13 =>
      Ask (rSel (aggArr x11) 2 1 false) fun x14 =>
      Ask (rSel (aggArr x11) 3 1 false) fun x15 =>
      Ask (rSel (aggArr x11) 4 1 false) fun x16 =>
      Ask (rSel (aggArr x11) 5 1 false) fun x17 =>
      Ask (rSel (aggArr x11) 6 1 false) fun x18 =>
      Ask (rSel (aggArr x11) 7 1 false) fun x19 =>
      Ask (rGen X.P (Go.Op.makeInterface 48 (Go.Operand.tmp 12)) 20 [(12, x6)]) fun x20 =>
      Ask (rGen X.P (Go.Op.makeInterface 48 (Go.Operand.tmp 15)) 20 [(15, (.agg #[x16, x17, x18, x19]))]) fun x21 =>
      AskI X x21 "Times" [(.agg #[x12, x13, x14, x15])] fun x22 =>
      AskI X x20 "Add" [x22] fun x23 =>
      Ask (rAgg 4 x23) fun x24 =>
      Ask (rBin X.P .add 3 false true x5 (J 1)) fun x25 =>
      Again X w7 [b1, b2] [] fun w => I0 [x25, x24] w ∧ μ0 [x25, x24] w < μ0 [x5, x6] w7) ∧ (x8 = .bool false →
      Ask (rAgg 4 x6) fun x9 =>
      Ret X w7 [b0] [] x9)) := by kernel_rfl
theorem keepsPlainL : Keeps1 Tryz.prog GT 93 cPlainL := by
  refine keepsW (T := Tgp) (A := ann93) hMix keepTgp hGT (calls_of (by kernel_rfl)) (callsW_of (by kernel_rfl)) fun args ⟨ts, _⟩ w0 hrd hpre hg => ?_
  obtain ⟨x, _, rfl, hl, rfl⟩ := hrd
  dsimp only at hl hpre
  replace hl : Ls encT okT w0 x ts := hl
  simp only [mx] at hpre
  refine ⟨[.x (.v 0)], [], [], 2, env0 [x] w0, fun b => b, 0, rfl, rfl, fun X hX => mem_none hX rfl, fun X hP hS hw hX hR => ?_⟩
  subst hw; try dsimp only at hR
  rw [vc93 X]
  rw [ask_zero4]; intro b0 hb0
  rw [ask_zero4]; intro b1 hb1
  refine a_len hP tyT hl.1 ?_
  refine ⟨fun a w => ∃ i, a = [J i, S ((ts.take i).foldl stepL 0)] ∧ i ≤ ts.length ∧ Kn X w, fun a _ => match a with | i :: _ => ts.length - intNat i | _ => 0, fun w hw => ⟨0, rfl, Nat.zero_le _, hw.kn⟩, ?_⟩
  rintro _ _ w ⟨i, he, hi, hk⟩
  simp only [List.cons.injEq, and_true] at he
  obtain ⟨rfl, rfl⟩ := he
  have hs : (ts.take i).foldl stepL 0 < W256 := plainL_lt _ _ (by decide)
  rw [ask_lssN]
  refine a_ifD (fun hlt => ?_) fun hge => ?_
  · have hl' := hl.1.stp0 (hk.stp0 hX)
    have okt := hl.2 _ (List.getElem_mem hlt)
    refine a_iadN hP tyT hl' hlt ?_
    refine a_load_agg (cs := encT ts[i]) hk hl' (by rw [hP]; exact aggT) (by rw [hP]; exact szT) (fun _ _ => List.not_mem_nil) (by simp [encT, encS]) (flat_at encT_len ts i _ (List.getElem?_eq_getElem hlt)) ?_
    intro b2 hb2
    refine a_agg rfl (one_encT _) ?_
    iterate 8 refine a_sel1 rfl ?_
    rw [foldSg, foldSg, ask_makeI (by rw [hP]; exact makeIL _), ask_makeI (by rw [hP]; exact makeIL _)]
    refine call_I hP hS (T := Tgp) (f := 188) rfl (ts[i].2, ts[i].1) (methLTimes _ _) ⟨okt.2, okt.1⟩ ?_
    refine call_I hP hS (T := Tgp) (f := 23) rfl ((ts.take i).foldl stepL 0, ts[i].2 * ts[i].1 % lN) (methLAdd _ _) ⟨hs, Nat.lt_trans (Nat.mod_lt _ (by decide)) (by decide)⟩ ?_
    rw [ask_aggS, ask_succ (by omega)]
    intro w2 hw2
    refine ⟨⟨i + 1, ?_, hlt, hw2.kn⟩, by simp [intNat]; omega⟩
    rw [foldl_take _ _ _ _ hlt]
    rfl
  · obtain rfl : i = ts.length := by omega
    rw [ask_aggS, List.take_length]
    exact hR _ _ _ _ fun _ _ => rfl

/-! ### sum -/
def cSumL : Contract := fnW (Cods.cons cTL Cods.nil) (fun p _ => p.1.length < 24) (fun p _ v _ => v = S (plainL p.1))
def Tgs : Table := T0.add 93 cPlainL
theorem keepTgs : AllKeep Tryz.prog GT Tgs := keepT0.add keepsPlainL
def ann95 : Ann := ⟨[], [], 70, [(93, false), (94, false)], [2, 3], none, [], []⟩
def kb95_0 (b0 : Nat) (x2 : Value) : List KB := [⟨b0, true, 48, (aggArr x2)⟩]
theorem vc95 (X : Ctx) (β : Nat → Nat) (x0 : Value) : (run Tryz.prog ann95 95 [.x (.v 0)] [] [] 2).den X (env0 [x0] X.w0) 2 β 0 (fun _ _ _ => False) = (
  Ask (rAgg 4 (.agg #[(U 0), (U 0), (U 0), (U 0)])) fun x2 =>
  AskNew X.w0 fun b0 =>
  Ask (rLen X.P 112 x0) fun x3 =>
  Ask (rBin X.P .lss 3 false true x3 (J 24)) fun x4 =>
  (∃ t, x4 = .bool t) ∧ (x4 = .bool true →
    AskW X X.w0 [] (kb95_0 b0 x2) false 93 [x0] fun x5 w5 =>
    Ask (rAgg 4 x5) fun x6 =>
    Ret X w5 [b0] [] x6) ∧ (x4 = .bool false →
    AskW X X.w0 [] (kb95_0 b0 x2) false 94 [x0] fun x5 w5 =>
    Ask (rExt X.P x5 0) fun x6 =>
    Ask (rExt X.P x5 1) fun x7 =>
    Ask (rAgg 4 (.agg #[(U 0), (U 0), (U 0), (U 0)])) fun _ =>
    AskNew w5 fun b1 =>
    AskNew w5 fun b2 =>
    Ask (rAgg 4 x6) fun x9 =>
    Ask (rAgg 2 x7) fun x10 =>
    Ask (rSel (aggArr x10) 0 1 false) fun _ =>
    Ask (rSel (aggArr x10) 1 1 false) fun _ =>
    Ask (rAgg 4 x9) fun x13 =>
    Ret X w5 [b0, b2, b1] [] x13)) := by kernel_rfl
theorem keepsSumL : Keeps1 Tryz.prog GT 95 cSumL := by
  refine keepsW (T := Tgs) (A := ann95) hMix keepTgs hGT (calls_of (by kernel_rfl)) (callsW_of (by kernel_rfl)) fun args ⟨ts, _⟩ w0 hrd hpre hg => ?_
  obtain ⟨x, _, rfl, hl, rfl⟩ := hrd
  dsimp only at hl hpre
  replace hl : Ls encT okT w0 x ts := hl
  refine ⟨[.x (.v 0)], [], [], 2, env0 [x] w0, fun b => b, 0, rfl, rfl, fun X hX => mem_none hX rfl, fun X hP hS hw hX hR => ?_⟩
  subst hw; try dsimp only at hR
  rw [vc95 X]
  rw [ask_zero4]; intro b0 hb0
  refine a_len hP tyT hl.1 ?_
  rw [ask_lssN]
  refine a_ifD (fun hlt => ?_) fun hge => absurd hpre hge
  refine call_W hX hS (T := Tgs) (f := 93) rfl (ts, ()) (fun w hw => ⟨⟨_, _, rfl, hl.stp0 (hw.kn.stp0 hX), rfl⟩, by simp only [mx]; omega⟩) fun v w w' h k s su hv => ?_
  subst hv
  rw [ask_aggS]
  exact hR _ _ _ _ fun _ _ => rfl

/-! ### Commit -/
def cCmL : Cods (Nat × Nat × Nat × Nat) := ⟨fun _ l p => ∃ r : List Value, l = [.agg (encS p.1 ++ encS p.2.1 ++ r).toArray, S p.2.2.1, S p.2.2.2] ∧ r.length = 6 ∧ r.all (·.oneCell') = true ∧ okS p.1 ∧ okS p.2.1 ∧ okS p.2.2.1 ∧ okS p.2.2.2, fun _ l ⟨a, b, c, d⟩ ⟨a', b', c', d'⟩ ⟨r, e, _, _, h1, h2, h3, h4⟩ ⟨r', e', _, _, k1, k2, k3, k4⟩ => by
  dsimp only at e h1 h2 h3 h4 e' k1 k2 k3 k4
  rw [e] at e'
  simp only [List.cons.injEq, Value.agg.injEq, and_true] at e'
  obtain ⟨e1, e2, e3⟩ := e'
  have e1 := congrArg Array.toList e1
  simp only [List.append_assoc] at e1
  obtain ⟨q1, e1⟩ := List.append_inj e1 rfl
  obtain ⟨q2, _⟩ := List.append_inj e1 rfl
  rw [encS_inj h1 k1 q1, encS_inj h2 k2 q2, S_inj h3 k3 e2, S_inj h4 k4 e3]⟩
def cCommitL : Contract := fnW cCmL (fun _ _ => True) (fun p _ v _ => v = S (plainL [(p.2.2.1, p.1), (p.2.2.2, p.2.1)]))
def Tgc : Table := T0.add 95 cSumL
theorem keepTgc : AllKeep Tryz.prog GT Tgc := keepT0.add keepsSumL
def ann72 : Ann := ⟨[], [], 70, [(95, false)], [3, 4, 5, 6], none, [], []⟩
def kb72_0 (b0 b1 b2 b3 : Nat) (x4 x5 x6 x7 : Value) : List KB := [⟨b0, true, 51, (aggArr x4)⟩, ⟨b1, true, 25, (aggArr x5)⟩, ⟨b2, true, 25, (aggArr x6)⟩, ⟨b3, true, 48, (aggArr x7)⟩]
theorem vc72 (X : Ctx) (β : Nat → Nat) (x0 x1 x2 : Value) : (run Tryz.prog ann72 72 [.x (.v 0), .x (.v 1), .x (.v 2)] [] [] 4).den X (env0 [x0, x1, x2] X.w0) 4 β 0 (fun _ _ _ => False) = (
  Ask (rAgg 14 x0) fun x4 =>
  AskNew X.w0 fun b0 =>
  Ask (rAgg 4 x1) fun x5 =>
  AskNew X.w0 fun b1 =>
  Ask (rAgg 4 x2) fun x6 =>
  AskNew X.w0 fun b2 =>
  Ask (rAgg 4 (.agg #[(U 0), (U 0), (U 0), (U 0)])) fun x7 =>
  AskNew X.w0 fun b3 =>
  Ask (rSel (aggArr x4) 0 4 true) fun x8 =>
  Ask (rAgg 4 x5) fun x9 =>
  Ask (rSel (aggArr x9) 0 1 false) fun x10 =>
  Ask (rSel (aggArr x9) 1 1 false) fun x11 =>
  Ask (rSel (aggArr x9) 2 1 false) fun x12 =>
  Ask (rSel (aggArr x9) 3 1 false) fun x13 =>
  Ask (rAgg 4 x8) fun x14 =>
  Ask (rSel (aggArr x14) 0 1 false) fun x15 =>
  Ask (rSel (aggArr x14) 1 1 false) fun x16 =>
  Ask (rSel (aggArr x14) 2 1 false) fun x17 =>
  Ask (rSel (aggArr x14) 3 1 false) fun x18 =>
  Ask (rSel (aggArr x4) 4 4 true) fun x19 =>
  Ask (rAgg 4 x6) fun x20 =>
  Ask (rSel (aggArr x20) 0 1 false) fun x21 =>
  Ask (rSel (aggArr x20) 1 1 false) fun x22 =>
  Ask (rSel (aggArr x20) 2 1 false) fun x23 =>
  Ask (rSel (aggArr x20) 3 1 false) fun x24 =>
  Ask (rAgg 4 x19) fun x25 =>
  Ask (rSel (aggArr x25) 0 1 false) fun x26 =>
  Ask (rSel (aggArr x25) 1 1 false) fun x27 =>
  Ask (rSel (aggArr x25) 2 1 false) fun x28 =>
  Ask (rSel (aggArr x25) 3 1 false) fun x29 =>
  AskO X X.w0 [] (kb72_0 b0 b1 b2 b3 x4 x5 x6 x7) false (Go.Op.buildSlice 112 2 #[(0, Go.Operand.tmp 10), (1, Go.Operand.tmp 14)]) 112 [(10, (.agg #[x10, x11, x12, x13, x15, x16, x17, x18])), (14, (.agg #[x21, x22, x23, x24, x26, x27, x28, x29]))] fun x30 w30 =>
  AskW X w30 [] (kb72_0 b0 b1 b2 b3 x4 x5 x6 x7) false 95 [x30] fun x31 w31 =>
  Ask (rAgg 4 x31) fun x32 =>
  Ret X w31 [b3] [] x32) := by kernel_rfl
theorem keepsCommitL : Keeps1 Tryz.prog GT 72 cCommitL := by
  refine keepsW (T := Tgc) (A := ann72) hMix keepTgc hGT (calls_of (by kernel_rfl)) (callsW_of (by kernel_rfl)) fun args ⟨a, b, c, d⟩ w0 hrd hpre hg => ?_
  obtain ⟨r, rfl, hr, hone, h1, h2, h3, h4⟩ := hrd
  dsimp only at h1 h2 h3 h4
  refine ⟨[.x (.v 0), .x (.v 1), .x (.v 2)], [], [], 4, env0 [.agg (encS a ++ encS b ++ r).toArray, S c, S d] w0, fun b => b, 0, rfl, rfl, fun X hX => mem_none hX rfl, fun X hP hS hw hX hR => ?_⟩
  subst hw; try dsimp only at hR
  rw [vc72 X]
  have hl14 : (encS a ++ encS b ++ r).length = 14 := by simp [encS_len, hr]
  refine a_agg hl14 (by simp only [List.all_append, hone, Bool.and_true]; simp [encS, U, Value.oneCell']) ?_
  intro b0 hb0
  rw [ask_aggS]; intro b1 hb1
  rw [ask_aggS]; intro b2 hb2
  rw [ask_zero4]; intro b3 hb3
  refine a_selL (ds := encS a) (by rw [List.drop_zero, List.append_assoc, List.take_left' (encS_len a)]) (by omega) ?_
  rw [agg_encS, ask_aggS, ask_selS0, ask_selS1, ask_selS2, ask_selS3, ask_aggS, ask_selS0, ask_selS1, ask_selS2, ask_selS3]
  refine a_selL (ds := encS b) (by rw [List.append_assoc, List.drop_left' (encS_len a), List.take_left' (encS_len b)]) (by omega) ?_
  rw [agg_encS, ask_aggS, ask_selS0, ask_selS1, ask_selS2, ask_selS3, ask_aggS, ask_selS0, ask_selS1, ask_selS2, ask_selS3]
  refine a_build ([(c, a), (d, b)].flatMap encT).toArray hX hP tyT (by decide) (by decide) (by kernel_rfl) rfl (by decide) fun g w w' h k s su o => ?_
  refine call_W hX hS (T := Tgc) (f := 95) rfl ([(c, a), (d, b)], ()) (fun w2 hw => ⟨⟨_, _, rfl, (⟨(own_slAt o).stp0 hw.stp, fun t ht => by
    simp only [List.mem_cons, List.not_mem_nil, or_false] at ht
    rcases ht with rfl | rfl
    · exact ⟨h3, h1⟩
    · exact ⟨h4, h2⟩⟩ : Ls encT okT _ _ _), rfl⟩, by simp⟩) fun v w2 w2' h2' k2 s2 su2 hv => ?_
  subst hv
  rw [ask_aggS]
  exact hR _ _ _ _ fun _ _ => rfl

/-! ### alive -/
def cVoidG : Cods Unit := ⟨fun _ l _ => l = [], fun _ _ _ _ _ _ => rfl⟩
def cAliveL9 : Contract := fnW cVoidG (fun _ _ => True) (fun _ _ v _ => v = .bool true)
def Tga : Table := ((T0.add 72 cCommitL).add 7 cRInt).add 8 cSameS
theorem keepTga : AllKeep Tryz.prog GT Tga := ((keepT0.add keepsCommitL).add keepsSInt).add keepsSame
end Go.Vc
