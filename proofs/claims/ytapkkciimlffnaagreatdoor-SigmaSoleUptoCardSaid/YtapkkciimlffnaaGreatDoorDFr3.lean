/-
  Lists over the scalars (msm.Free): Neg, Double, Times, Add.
-/
import Derived.Test.YtapkkciimlffnaaGreatDoorDFr2
namespace Go.Vc
open Go Go.Proofs Go.RowKit

/-- The arguments: a list of scalars in its struct. -/
def cFr : Cods (List Nat) := ⟨fun w l a => ∃ x, l = [.agg #[x]] ∧ cLS.rd w x a, fun w l a a' ⟨x, e, h⟩ ⟨x', e', h'⟩ => by
  rw [e] at e'
  simp only [List.cons.injEq, Value.agg.injEq, and_true] at e'
  have e1 := congrArg Array.toList e'
  simp only [List.cons.injEq, and_true] at e1
  subst e1
  exact cLS.inj _ _ _ _ h h'⟩
def cFrS : Cods (List Nat × Nat) := ⟨fun w l p => ∃ x, l = [.agg #[x], S p.2] ∧ cLS.rd w x p.1 ∧ okS p.2, fun w l ⟨a, k⟩ ⟨a', k'⟩ ⟨x, e, h, o⟩ ⟨x', e', h', o'⟩ => by
  dsimp only at e h o e' h' o'
  rw [e] at e'
  simp only [List.cons.injEq, Value.agg.injEq, and_true] at e'
  have e1 := congrArg Array.toList e'.1
  simp only [List.cons.injEq, and_true] at e1
  subst e1
  rw [cLS.inj _ _ _ _ h h', S_inj o o' e'.2]⟩
def cFr2 : Cods (List Nat × List Nat) := ⟨fun w l p => ∃ x y, l = [.agg #[x], .agg #[y]] ∧ cLS.rd w x p.1 ∧ cLS.rd w y p.2, fun w l ⟨a, b⟩ ⟨a', b'⟩ ⟨x, y, e, h, k⟩ ⟨x', y', e', h', k'⟩ => by
  dsimp only at e h k e' h' k'
  rw [e] at e'
  simp only [List.cons.injEq, Value.agg.injEq, and_true] at e'
  have e1 := congrArg Array.toList e'.1
  have e2 := congrArg Array.toList e'.2
  simp only [List.cons.injEq, and_true] at e1 e2
  subst e1 e2
  rw [cLS.inj _ _ _ _ h h', cLS.inj _ _ _ _ k k']⟩

def cFNeg : Contract := fnW cFr (fun a _ => a.length ≤ mx) (fun a w v w' => Tr w.heap.size w' v (a.map Fk.neg.op))
def cFDbl : Contract := fnW cFr (fun a _ => a.length ≤ mx) (fun a w v w' => Tr w.heap.size w' v (a.map Fk.dbl.op))
def cFTim : Contract := fnW cFrS (fun p _ => p.1.length ≤ mx) (fun p w v w' => Tr w.heap.size w' v (p.1.map (Fk.mul p.2).op))
def Tng : Table := (T0.add 183 cEach).add 182 cTrimmed
theorem keepTng : AllKeep Tryz.prog GT Tng := (keepT0.add keepsEach).add keepsTrimmed
def ann179 : Ann := ⟨[], [], 70, [(183, false)], [], none, [], []⟩
def kb179_0 (b0 b1 : Nat) (x3 : Value) : List KB := [⟨b0, true, 32, #[x3]⟩, ⟨b1, true, 32, #[(.slice none 0 0)]⟩]
theorem vc179 (X : Ctx) (β : Nat → Nat) (x0 : Value) : (run Tryz.prog ann179 179 [.x (.v 0)] [] [] 2).den X (env0 [x0] X.w0) 2 β 0 (fun _ _ _ => False) = (
  Ask (rAgg 1 x0) fun x2 =>
  Ask (rSel (aggArr x2) 0 1 false) fun x3 =>
  AskNew X.w0 fun b0 =>
  AskNew X.w0 fun b1 =>
  AskW X X.w0 [] (kb179_0 b0 b1 x3) false 183 [(.agg #[x3]), (.func (.func 184) #[] #[])] fun x4 w4 =>
  Ask (rAgg 1 x4) fun x5 =>
  Ask (rSel (aggArr x5) 0 1 false) fun x6 =>
  Ret X w4 [b1] [] (.agg #[x6])) := by kernel_rfl
theorem keepsFDbl : Keeps1 Tryz.prog GT 179 cFDbl := by
  refine keepsW (T := Tng) (A := ann179) hMix keepTng hGT (calls_of (by kernel_rfl)) (callsW_of (by kernel_rfl)) fun args l w0 hrd hpre hg => ?_
  obtain ⟨x, rfl, hl⟩ := hrd
  replace hl : Ls encS okS w0 x l := hl
  refine ⟨[.x (.v 0)], [], [], 2, env0 [.agg #[x]] w0, fun b => b, 0, rfl, rfl, fun X hX => mem_none hX rfl, fun X hP hS hw hX hR => ?_⟩
  subst hw; try dsimp only at hR
  rw [vc179 X]
  refine a_agg (cs := [x]) rfl (by simp [slAt_one hl.1]) (a_sel1 rfl ?_)
  intro b0 hb0 b1 hb1
  refine call_W hX hS (T := Tng) (f := 183) rfl (.dbl, l) (fun w hw => ⟨⟨x, rfl, ⟨hl.1.stp0 hw.stp, hl.2⟩, trivial⟩, hpre⟩) fun v w4' w4 hw4 k4 s4 su4 hv => ?_
  obtain ⟨y, rfl, o4⟩ := hv
  have lo1 : b1 < w4'.heap.size := hw4.low (by simp [kb179_0])
  refine a_agg rfl (by simp [own_one o4]) (a_sel1 rfl ?_)
  exact hR _ _ _ _ fun w hw => ⟨_, rfl, own_mono (own_stp o4 hw.stp (off_own o4 (all1 lo1))) hw4.sz0⟩
theorem ask_makeFunc1 {P : Program} {K : Value → Prop} {f a ty : Nat} {p : Value} : Ask (rGen P (.makeFunc (.func f) #[.tmp a] #[]) ty [(a, p)]) K = K (.func (.func f) #[p] #[]) :=
  ask_eq (runsN_iff fun w => by simp [execOp, Instr.makeFunc, argsFn])
def ann181 : Ann := ⟨[], [49], 70, [(183, false), (182, false)], [3], none, [], []⟩
def kb181_0 (b0 b1 b2 : Nat) (x4 x5 : Value) : List KB := [⟨b0, true, 32, #[x4]⟩, ⟨b1, true, 25, (aggArr x5)⟩, ⟨b2, true, 32, #[(.slice none 0 0)]⟩]
theorem vc181 (X : Ctx) (β : Nat → Nat) (x0 x1 : Value) : (run Tryz.prog ann181 181 [.x (.v 0), .x (.v 1)] [] [] 3).den X (env0 [x0, x1] X.w0) 3 β 0 (fun _ _ _ => False) = (
  Ask (rAgg 1 x0) fun x3 =>
  Ask (rSel (aggArr x3) 0 1 false) fun x4 =>
  AskNew X.w0 fun b0 =>
  Ask (rAgg 4 x1) fun x5 =>
  AskNew X.w0 fun b1 =>
  AskNew X.w0 fun b2 =>
  Ask (rGen X.P (Go.Op.makeFunc (Go.Fn.func 49) #[Go.Operand.tmp 6] #[]) 65 [(6, x5)]) fun x6 =>
  AskW X X.w0 [] (kb181_0 b0 b1 b2 x4 x5) false 183 [(.agg #[x4]), x6] fun x7 w7 =>
  Ask (rAgg 1 x7) fun x8 =>
  Ask (rSel (aggArr x8) 0 1 false) fun x9 =>
  Ret X w7 [b2] [] (.agg #[x9])) := by kernel_rfl
def Ttg : Table := Tng.add 49 cMulS
theorem keepTtg : AllKeep Tryz.prog GT Ttg := keepTng.add keepsMul
theorem keepsFTim : Keeps1 Tryz.prog GT 181 cFTim := by
  refine keepsW (T := Ttg) (A := ann181) hMix keepTtg hGT (calls_of (by kernel_rfl)) (callsW_of (by kernel_rfl)) fun args ⟨l, k⟩ w0 hrd hpre hg => ?_
  obtain ⟨x, rfl, hl, hk⟩ := hrd
  dsimp only at hl hk hpre
  replace hl : Ls encS okS w0 x l := hl
  refine ⟨[.x (.v 0), .x (.v 1)], [], [], 3, env0 [.agg #[x], S k] w0, fun b => b, 0, rfl, rfl, fun X hX => mem_none hX rfl, fun X hP hS hw hX hR => ?_⟩
  subst hw; try dsimp only at hR
  rw [vc181 X]
  refine a_agg (cs := [x]) rfl (by simp [slAt_one hl.1]) (a_sel1 rfl ?_)
  intro b0 hb0
  rw [ask_aggS]
  intro b1 hb1 b2 hb2
  rw [ask_makeFunc1]
  refine call_W hX hS (T := Ttg) (f := 183) rfl (.mul k, l) (fun w hw => ⟨⟨x, rfl, ⟨hl.1.stp0 hw.stp, hl.2⟩, hk⟩, hpre⟩) fun v w4' w4 hw4 k4 s4 su4 hv => ?_
  obtain ⟨y, rfl, o4⟩ := hv
  have lo2 : b2 < w4'.heap.size := hw4.low (by simp [kb181_0])
  refine a_agg rfl (by simp [own_one o4]) (a_sel1 rfl ?_)
  exact hR _ _ _ _ fun w hw => ⟨_, rfl, own_mono (own_stp o4 hw.stp (off_own o4 (all1 lo2))) hw4.sz0⟩

/-! ### Add -/
def addL (a b : List Nat) : List Nat := (List.range a.length).map fun i => (a.getD i 0 + b.getD i 0) % lN
def addF (a b : List Nat) : List Nat := if a.length < b.length then addL b a else addL a b
def cFAdd : Contract := fnW cFr2 (fun p _ => p.1.length ≤ mx ∧ p.2.length ≤ mx) (fun p w v w' => Tr w.heap.size w' v (addF p.1 p.2))
def ann178 : Ann := ⟨[(5, ([24], []))], [21, 33], 70, [(182, false)], [7], none, [], []⟩
def kb178_0 (b0 b1 b2 : Nat) (x10 x11 : Value) : List KB := [⟨b0, true, 32, #[x10]⟩, ⟨b1, true, 32, #[x11]⟩, ⟨b2, true, 32, #[(.slice none 0 0)]⟩]
def kb178_1 (b0 b1 b2 b3 : Nat) (x10 x11 x21 : Value) : List KB := [⟨b0, true, 32, #[x10]⟩, ⟨b1, true, 32, #[x11]⟩, ⟨b2, true, 32, #[(.slice none 0 0)]⟩, ⟨b3, true, 25, (aggArr x21)⟩]
def kb178_2 (b0 b1 b2 : Nat) (x4 x6 : Value) : List KB := [⟨b0, true, 32, #[x4]⟩, ⟨b1, true, 32, #[x6]⟩, ⟨b2, true, 32, #[(.slice none 0 0)]⟩]
def kb178_3 (b0 b1 b2 b3 : Nat) (x4 x6 x19 : Value) : List KB := [⟨b0, true, 32, #[x4]⟩, ⟨b1, true, 32, #[x6]⟩, ⟨b2, true, 32, #[(.slice none 0 0)]⟩, ⟨b3, true, 25, (aggArr x19)⟩]
theorem vc178 (X : Ctx) (β : Nat → Nat) (x0 x1 : Value) : (run Tryz.prog ann178 178 [.x (.v 0), .x (.v 1)] [] [] 3).den X (env0 [x0, x1] X.w0) 3 β 0 (fun _ _ _ => False) = (
  Ask (rAgg 1 x0) fun x3 =>
  Ask (rSel (aggArr x3) 0 1 false) fun x4 =>
  AskNew X.w0 fun b0 =>
  Ask (rAgg 1 x1) fun x5 =>
  Ask (rSel (aggArr x5) 0 1 false) fun x6 =>
  AskNew X.w0 fun b1 =>
  AskNew X.w0 fun b2 =>
  Ask (rLen X.P 22 x4) fun x7 =>
  Ask (rLen X.P 22 x6) fun x8 =>
  Ask (rBin X.P .lss 3 false false x7 x8) fun x9 =>
  (∃ t, x9 = .bool t) ∧ (x9 = .bool true →
    Ask (rPlain x6) fun x10 =>
    Ask (rPlain x4) fun x11 =>
    Ask (rLen X.P 22 x10) fun x12 =>
    AskO X X.w0 [b1, b0] (kb178_0 b0 b1 b2 x10 x11) false (Go.Op.makeSlice 22 (Go.Operand.tmp 19) (Go.Operand.tmp 19)) 22 [(19, x12), (19, x12)] fun x13 w13 =>
    Ask (rLen X.P 22 x10) fun x14 =>
    ∃ (I0 : List Value → World → Prop) (μ0 : List Value → World → Nat), (∀ w, KnownV X w13 [] (kb178_0 b0 b1 b2 x10 x11) w → I0 [(J 0)] w) ∧ ∀ x15 w16, I0 [x15] w16 →
      Ask (rBin X.P .lss 3 false false x15 x14) fun x17 =>
      (∃ t, x17 = .bool t) ∧ (x17 = .bool true →
        Ask (rIad X.P 22 x10 x15) fun x18 =>
        Ask (rLoad X w16 [] 25 x18) fun x19 =>
        Ask (rAgg 4 (.agg #[(U 0), (U 0), (U 0), (U 0)])) fun _ =>
        AskNew w16 fun b3 =>
        Ask (rAgg 4 x19) fun x21 =>
        AskF X 33 [x21] fun x22 =>
        Ask (rIad X.P 22 x13 x15) fun x23 =>
        AskO X w16 [b3] (kb178_1 b0 b1 b2 b3 x10 x11 x21) true (Go.Op.store 25 (Go.Operand.tmp 33) (Go.Operand.tmp 32)) 0 [(33, x23), (32, x22)] fun _ w24 =>
        Ask (rLen X.P 22 x11) fun x25 =>
        Ask (rBin X.P .lss 3 false false x15 x25) fun x26 =>
        (∃ t, x26 = .bool t) ∧ (x26 = .bool true →
          Ask (rIad X.P 22 x11 x15) fun x27 =>
          Ask (rLoad X w24 [] 25 x27) fun x28 =>
          AskF X 21 [x21, x28] fun x29 =>
          Ask (rIad X.P 22 x13 x15) fun x30 =>
          AskO X w24 [] (kb178_1 b0 b1 b2 b3 x10 x11 x21) true (Go.Op.store 25 (Go.Operand.tmp 48) (Go.Operand.tmp 47)) 0 [(48, x30), (47, x29)] fun _ w31 =>
          Ask (rBin X.P .add 3 false true x15 (J 1)) fun x32 =>
          Again X w31 [] [] fun w => I0 [x32] w ∧ μ0 [x32] w < μ0 [x15] w16) ∧ (x26 = .bool false →
          Ask (rBin X.P .add 3 false true x15 (J 1)) fun x27 =>
          Again X w24 [] [] fun w => I0 [x27] w ∧ μ0 [x27] w < μ0 [x15] w16)) ∧ (x17 = .bool false →
        AskW X w16 [] (kb178_0 b0 b1 b2 x10 x11) false 182 [x13] fun x18 w18 =>
        Ask (rAgg 1 x18) fun x19 =>
        Ask (rSel (aggArr x19) 0 1 false) fun x20 =>
        Ret X w18 [b2] [] (.agg #[x20]))) ∧ (x9 = .bool false →
    Ask (rLen X.P 22 x4) fun x10 =>
    AskO X X.w0 [] (kb178_2 b0 b1 b2 x4 x6) false (Go.Op.makeSlice 22 (Go.Operand.tmp 19) (Go.Operand.tmp 19)) 22 [(19, x10), (19, x10)] fun x11 w11 =>
    Ask (rLen X.P 22 x4) fun x12 =>
    ∃ (I0 : List Value → World → Prop) (μ0 : List Value → World → Nat), (∀ w, KnownV X w11 [] (kb178_2 b0 b1 b2 x4 x6) w → I0 [(J 0)] w) ∧ ∀ x13 w14, I0 [x13] w14 →
      Ask (rBin X.P .lss 3 false false x13 x12) fun x15 =>
      (∃ t, x15 = .bool t) ∧ (x15 = .bool true →
        Ask (rIad X.P 22 x4 x13) fun x16 =>
        Ask (rLoad X w14 [] 25 x16) fun x17 =>
        Ask (rAgg 4 (.agg #[(U 0), (U 0), (U 0), (U 0)])) fun _ =>
        AskNew w14 fun b3 =>
        Ask (rAgg 4 x17) fun x19 =>
        AskF X 33 [x19] fun x20 =>
        Ask (rIad X.P 22 x11 x13) fun x21 =>
        AskO X w14 [b3] (kb178_3 b0 b1 b2 b3 x4 x6 x19) true (Go.Op.store 25 (Go.Operand.tmp 33) (Go.Operand.tmp 32)) 0 [(33, x21), (32, x20)] fun _ w22 =>
        Ask (rLen X.P 22 x6) fun x23 =>
        Ask (rBin X.P .lss 3 false false x13 x23) fun x24 =>
        (∃ t, x24 = .bool t) ∧ (x24 = .bool true →
          Ask (rIad X.P 22 x6 x13) fun x25 =>
          Ask (rLoad X w22 [] 25 x25) fun x26 =>
          AskF X 21 [x19, x26] fun x27 =>
          Ask (rIad X.P 22 x11 x13) fun x28 =>
          AskO X w22 [] (kb178_3 b0 b1 b2 b3 x4 x6 x19) true (Go.Op.store 25 (Go.Operand.tmp 48) (Go.Operand.tmp 47)) 0 [(48, x28), (47, x27)] fun _ w29 =>
          Ask (rBin X.P .add 3 false true x13 (J 1)) fun x30 =>
          Again X w29 [] [] fun w => I0 [x30] w ∧ μ0 [x30] w < μ0 [x13] w14) ∧ (x24 = .bool false →
          Ask (rBin X.P .add 3 false true x13 (J 1)) fun x25 =>
          Again X w22 [] [] fun w => I0 [x25] w ∧ μ0 [x25] w < μ0 [x13] w14)) ∧ (x15 = .bool false →
        AskW X w14 [] (kb178_2 b0 b1 b2 x4 x6) false 182 [x11] fun x16 w16 =>
        Ask (rAgg 1 x16) fun x17 =>
        Ask (rSel (aggArr x17) 0 1 false) fun x18 =>
        Ret X w16 [b2] [] (.agg #[x18])))) := by kernel_rfl
def Tad : Table := ((T0.add 182 cTrimmed).add 21 cAddS).add 33 cLeastS
theorem keepTad : AllKeep Tryz.prog GT Tad := ((keepT0.add keepsTrimmed).add keepsAdd).add keepsLeast
theorem addL_len (a b : List Nat) : (addL a b).length = a.length := by simp [addL]
theorem addL_get (a b : List Nat) (i : Nat) (h : i < a.length) : (addL a b).getD i 0 = (a.getD i 0 + b.getD i 0) % lN := by
  rw [List.getD_eq_getElem?_getD, addL, List.getElem?_map, List.getElem?_range h]; rfl
theorem addL_lt (a b : List Nat) : ∀ x ∈ addL a b, x < lN := fun x hx => by
  obtain ⟨i, _, rfl⟩ := List.mem_map.1 hx; exact Nat.mod_lt _ (by decide)
theorem getD_at {l : List Nat} {i : Nat} (h : i < l.length) : l.getD i 0 = l[i] := by rw [List.getD_eq_getElem?_getD, List.getElem?_eq_getElem h]; rfl
theorem set_set (xs ys zs : List Value) (k : Nat) (h : ys.length = zs.length) (hb : k + ys.length ≤ xs.length) : lset (lset xs k ys) k zs = lset xs k zs := by
  have hA : (xs.take k).length = k := by rw [List.length_take]; omega
  unfold lset
  rw [List.append_assoc (xs.take k) ys, List.take_left' hA, ← List.append_assoc, List.drop_left' (by rw [List.length_append, hA, h]), h]
theorem keepsFAdd : Keeps1 Tryz.prog GT 178 cFAdd := by
  refine keepsW (T := Tad) (A := ann178) hMix keepTad hGT (calls_of (by kernel_rfl)) (callsW_of (by kernel_rfl)) fun args ⟨la, lb⟩ w0 hrd hpre hg => ?_
  obtain ⟨x, y, rfl, ha, hb⟩ := hrd
  dsimp only at ha hb hpre
  replace ha : Ls encS okS w0 x la := ha
  replace hb : Ls encS okS w0 y lb := hb
  simp only [mx] at hpre
  refine ⟨[.x (.v 0), .x (.v 1)], [], [], 3, env0 [.agg #[x], .agg #[y]] w0, fun b => b, 0, rfl, rfl, fun X hX => mem_none hX rfl, fun X hP hS hw hX hR => ?_⟩
  subst hw; try dsimp only at hR
  rw [vc178 X]
  refine a_agg (cs := [x]) rfl (by simp [slAt_one ha.1]) (a_sel1 rfl ?_)
  intro b0 hb0
  refine a_agg (cs := [y]) rfl (by simp [slAt_one hb.1]) (a_sel1 rfl ?_)
  intro b1 hb1 b2 hb2
  refine a_len hP tyS' ha.1 ?_
  refine a_len hP tyS' hb.1 ?_
  rw [ask_lssN]
  refine a_ifD (fun hab => ?_) fun hab => ?_
  · rw [show addF la lb = addL lb la from if_pos hab] at hR
    refine a_plain (slAt_one hb.1) (a_plain (slAt_one ha.1) ?_)
    refine a_len hP tyS' hb.1 ?_
    refine a_make (n := lb.length) hX hP tyS' rfl rfl (by omega) (by simp only [maxLen]; omega) fun g w6' w6 hw6 k6 s6 su6 o6 => ?_
    rw [zero_made] at o6
    have lo0 : b0 < w6'.heap.size := hw6.low (by simp [kb178_0])
    have lo1 : b1 < w6'.heap.size := hw6.low (by simp [kb178_0])
    have lo2 : b2 < w6'.heap.size := hw6.low (by simp [kb178_0])
    have hg := o6.lt g rfl
    refine a_len hP tyS' hb.1 ?_
    have hsl := addL_len lb la
    refine ⟨fun a w => ∃ i, a = [J i] ∧ i ≤ lb.length ∧ w.ownsRow w6'.heap.size 25 4 (.slice (some ⟨g, 0, none⟩) lb.length lb.length) lb.length (((addL lb la).take i ++ List.replicate (lb.length - i) 0).flatMap encS) ∧ Kn X w, fun a _ => match a with | [i] => lb.length - intNat i | _ => 0,
      fun w hw => ⟨0, rfl, Nat.zero_le _, own_stp0 o6 hw.stp, hw.kn⟩, ?_⟩
    rintro _ w9 ⟨i, he, hi, o9, k9⟩
    simp only [List.cons.injEq, and_true] at he
    subst he
    have hg9 := o9.lt g rfl
    rw [ask_lssN]
    refine a_ifD (fun hlt => ?_) fun hge => ?_
    · have hl9 := hb.1.stp0 (k9.stp0 hX)
      refine a_iadN hP tyS' hl9 hlt ?_
      refine a_load_agg (cs := encS lb[i]) k9 hl9 (hP ▸ aggS) (by rw [hP]; exact szS) (fun _ _ => List.not_mem_nil) (by simp [encS]) (flat_at encS_len lb i _ (List.getElem?_eq_getElem hlt)) ?_
      rw [ask_zero4]
      intro b3 hb3
      rw [agg_encS, ask_aggS]
      have okl := hb.2 _ (List.getElem_mem hlt)
      refine call_PE hS (T := Tad) (f := 33) rfl lb[i] okl ?_
      refine a_iadN hP tyS' (own_slAt o9) hlt ?_
      refine a_store (vs := encS (lb[i] % lN)) hX hP szS rfl rfl rfl rfl (one_encS _) o9 hw6.sz0 (by omega) (by decide) (fun q hq => by cases hq; simp; omega) (fun _ _ q hq => by cases hq; simp [kb178_1]; omega) fun _ w16 w17 hw16 k17 s17 su17 o17 => ?_
      have hlen : (((addL lb la).take i ++ List.replicate (lb.length - i) 0).flatMap encS).length = lb.length * 4 := by rw [flat_len encS_len]; simp; omega
      have e0 : ∀ z, z = (addL lb la).getD i 0 → lset (((addL lb la).take i ++ List.replicate (lb.length - i) 0).flatMap encS) (i * 4) (encS z) = ((addL lb la).take (i + 1) ++ List.replicate (lb.length - (i + 1)) 0).flatMap encS := fun z hz => by
        rw [lset_flat encS_len _ _ _ (by simp; omega), hz, show lb.length - i = lb.length - (i + 1) + 1 by omega, out_set (by rw [hsl]; exact hlt)]
      refine a_len hP tyS' ha.1 ?_
      rw [ask_lssN]
      refine a_ifD (fun hlt2 => ?_) fun hge2 => ?_
      · have hs17 := ha.1.stp0 (k17.stp0 hX)
        refine a_iadN hP tyS' hs17 hlt2 ?_
        refine a_load_agg (cs := encS la[i]) k17 hs17 (hP ▸ aggS) (by rw [hP]; exact szS) (fun _ _ => List.not_mem_nil) (by simp [encS]) (flat_at encS_len la i _ (List.getElem?_eq_getElem hlt2)) ?_
        rw [agg_encS]
        refine call_PE hS (T := Tad) (f := 21) rfl (lb[i], la[i]) ⟨okl, ha.2 _ (List.getElem_mem hlt2)⟩ ?_
        refine a_iadN hP tyS' (own_slAt o17) hlt ?_
        refine a_store (vs := encS ((lb[i] + la[i]) % lN)) hX hP szS rfl rfl rfl rfl (one_encS _) o17 hw6.sz0 (by omega) (by decide) (fun _ _ => List.not_mem_nil) (fun _ _ q hq => by cases hq; simp [kb178_1]; omega) fun _ w26 w27 hw26 k27 s27 su27 o27 => ?_
        rw [ask_succ (by omega)]
        intro w18 hw18
        refine ⟨⟨i + 1, rfl, hlt, ?_, hw18.kn⟩, by simp [intNat]; omega⟩
        rw [set_set _ (encS (lb[i] % lN)) (encS ((lb[i] + la[i]) % lN)) _ (by rw [encS_len, encS_len]) (by rw [hlen, encS_len]; omega), e0 _ (by rw [addL_get _ _ _ hlt, getD_at hlt, getD_at hlt2])] at o27
        exact own_stp0 o27 hw18.stp
      · rw [ask_succ (by omega)]
        intro w18 hw18
        refine ⟨⟨i + 1, rfl, hlt, ?_, hw18.kn⟩, by simp [intNat]; omega⟩
        rw [e0 _ (by rw [addL_get _ _ _ hlt, getD_at hlt, List.getD_eq_getElem?_getD (l := la), List.getElem?_eq_none (by omega)]; rfl)] at o17
        exact own_stp0 o17 hw18.stp
    · obtain rfl : i = lb.length := by omega
      rw [List.take_of_length_le (by omega), Nat.sub_self, List.replicate_zero, List.append_nil] at o9
      have o9' : w9.ownsRow w6'.heap.size 25 4 (.slice (some ⟨g, 0, none⟩) (addL lb la).length lb.length) (addL lb la).length ((addL lb la).flatMap encS) := by rw [hsl]; exact o9
      refine call_W hX hS (T := Tad) (f := 182) rfl (g, lb.length, addL lb la) (fun w hw => ⟨⟨by rw [hsl], by rw [hsl]; exact (own_slAt o9).stp0 hw.stp, fun y hy => Nat.lt_trans (addL_lt _ _ y hy) (by decide)⟩, addL_lt _ _⟩) fun v w11' w11 hw11 k11 s11 su11 hv => ?_
      obtain rfl := hv
      have o11 := own_tr (own_stp0 o9' su11)
      refine a_agg rfl (by simp [own_one o11]) (a_sel1 rfl ?_)
      refine hR _ _ _ _ fun w hw => ⟨_, rfl, own_mono (own_stp o11 hw.stp (off_own o11 (all1 lo2))) hw6.sz0⟩
  · rw [show addF la lb = addL la lb from if_neg hab] at hR
    refine a_len hP tyS' ha.1 ?_
    refine a_make (n := la.length) hX hP tyS' rfl rfl (by omega) (by simp only [maxLen]; omega) fun g w6' w6 hw6 k6 s6 su6 o6 => ?_
    rw [zero_made] at o6
    have lo0 : b0 < w6'.heap.size := hw6.low (by simp [kb178_2])
    have lo1 : b1 < w6'.heap.size := hw6.low (by simp [kb178_2])
    have lo2 : b2 < w6'.heap.size := hw6.low (by simp [kb178_2])
    have hg := o6.lt g rfl
    refine a_len hP tyS' ha.1 ?_
    have hsl := addL_len la lb
    refine ⟨fun a w => ∃ i, a = [J i] ∧ i ≤ la.length ∧ w.ownsRow w6'.heap.size 25 4 (.slice (some ⟨g, 0, none⟩) la.length la.length) la.length (((addL la lb).take i ++ List.replicate (la.length - i) 0).flatMap encS) ∧ Kn X w, fun a _ => match a with | [i] => la.length - intNat i | _ => 0,
      fun w hw => ⟨0, rfl, Nat.zero_le _, own_stp0 o6 hw.stp, hw.kn⟩, ?_⟩
    rintro _ w9 ⟨i, he, hi, o9, k9⟩
    simp only [List.cons.injEq, and_true] at he
    subst he
    have hg9 := o9.lt g rfl
    rw [ask_lssN]
    refine a_ifD (fun hlt => ?_) fun hge => ?_
    · have hl9 := ha.1.stp0 (k9.stp0 hX)
      refine a_iadN hP tyS' hl9 hlt ?_
      refine a_load_agg (cs := encS la[i]) k9 hl9 (hP ▸ aggS) (by rw [hP]; exact szS) (fun _ _ => List.not_mem_nil) (by simp [encS]) (flat_at encS_len la i _ (List.getElem?_eq_getElem hlt)) ?_
      rw [ask_zero4]
      intro b3 hb3
      rw [agg_encS, ask_aggS]
      have okl := ha.2 _ (List.getElem_mem hlt)
      refine call_PE hS (T := Tad) (f := 33) rfl la[i] okl ?_
      refine a_iadN hP tyS' (own_slAt o9) hlt ?_
      refine a_store (vs := encS (la[i] % lN)) hX hP szS rfl rfl rfl rfl (one_encS _) o9 hw6.sz0 (by omega) (by decide) (fun q hq => by cases hq; simp; omega) (fun _ _ q hq => by cases hq; simp [kb178_3]; omega) fun _ w16 w17 hw16 k17 s17 su17 o17 => ?_
      have hlen : (((addL la lb).take i ++ List.replicate (la.length - i) 0).flatMap encS).length = la.length * 4 := by rw [flat_len encS_len]; simp; omega
      have e0 : ∀ z, z = (addL la lb).getD i 0 → lset (((addL la lb).take i ++ List.replicate (la.length - i) 0).flatMap encS) (i * 4) (encS z) = ((addL la lb).take (i + 1) ++ List.replicate (la.length - (i + 1)) 0).flatMap encS := fun z hz => by
        rw [lset_flat encS_len _ _ _ (by simp; omega), hz, show la.length - i = la.length - (i + 1) + 1 by omega, out_set (by rw [hsl]; exact hlt)]
      refine a_len hP tyS' hb.1 ?_
      rw [ask_lssN]
      refine a_ifD (fun hlt2 => ?_) fun hge2 => ?_
      · have hs17 := hb.1.stp0 (k17.stp0 hX)
        refine a_iadN hP tyS' hs17 hlt2 ?_
        refine a_load_agg (cs := encS lb[i]) k17 hs17 (hP ▸ aggS) (by rw [hP]; exact szS) (fun _ _ => List.not_mem_nil) (by simp [encS]) (flat_at encS_len lb i _ (List.getElem?_eq_getElem hlt2)) ?_
        rw [agg_encS]
        refine call_PE hS (T := Tad) (f := 21) rfl (la[i], lb[i]) ⟨okl, hb.2 _ (List.getElem_mem hlt2)⟩ ?_
        refine a_iadN hP tyS' (own_slAt o17) hlt ?_
        refine a_store (vs := encS ((la[i] + lb[i]) % lN)) hX hP szS rfl rfl rfl rfl (one_encS _) o17 hw6.sz0 (by omega) (by decide) (fun _ _ => List.not_mem_nil) (fun _ _ q hq => by cases hq; simp [kb178_3]; omega) fun _ w26 w27 hw26 k27 s27 su27 o27 => ?_
        rw [ask_succ (by omega)]
        intro w18 hw18
        refine ⟨⟨i + 1, rfl, hlt, ?_, hw18.kn⟩, by simp [intNat]; omega⟩
        rw [set_set _ (encS (la[i] % lN)) (encS ((la[i] + lb[i]) % lN)) _ (by rw [encS_len, encS_len]) (by rw [hlen, encS_len]; omega), e0 _ (by rw [addL_get _ _ _ hlt, getD_at hlt, getD_at hlt2])] at o27
        exact own_stp0 o27 hw18.stp
      · rw [ask_succ (by omega)]
        intro w18 hw18
        refine ⟨⟨i + 1, rfl, hlt, ?_, hw18.kn⟩, by simp [intNat]; omega⟩
        rw [e0 _ (by rw [addL_get _ _ _ hlt, getD_at hlt, List.getD_eq_getElem?_getD (l := lb), List.getElem?_eq_none (by omega)]; rfl)] at o17
        exact own_stp0 o17 hw18.stp
    · obtain rfl : i = la.length := by omega
      rw [List.take_of_length_le (by omega), Nat.sub_self, List.replicate_zero, List.append_nil] at o9
      have o9' : w9.ownsRow w6'.heap.size 25 4 (.slice (some ⟨g, 0, none⟩) (addL la lb).length la.length) (addL la lb).length ((addL la lb).flatMap encS) := by rw [hsl]; exact o9
      refine call_W hX hS (T := Tad) (f := 182) rfl (g, la.length, addL la lb) (fun w hw => ⟨⟨by rw [hsl], by rw [hsl]; exact (own_slAt o9).stp0 hw.stp, fun y hy => Nat.lt_trans (addL_lt _ _ y hy) (by decide)⟩, addL_lt _ _⟩) fun v w11' w11 hw11 k11 s11 su11 hv => ?_
      obtain rfl := hv
      have o11 := own_tr (own_stp0 o9' su11)
      refine a_agg rfl (by simp [own_one o11]) (a_sel1 rfl ?_)
      refine hR _ _ _ _ fun w hw => ⟨_, rfl, own_mono (own_stp o11 hw.stp (off_own o11 (all1 lo2))) hw6.sz0⟩
end Go.Vc
#print axioms Go.Vc.keepsFAdd
