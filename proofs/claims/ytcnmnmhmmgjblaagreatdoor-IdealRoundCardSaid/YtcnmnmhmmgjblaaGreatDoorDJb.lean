import Derived.Test.YtcnmnmhmmgjblaaGreatDoorDIq
import Derived.Test.YtcnmnmhmmgjblaaGreatDoorVcMut
import Derived.Tactics
import Derived.Tactics2
import Derived.Laws.LoneSync
/-
  Counters that several may count; digits of scalars; scalars' bytes.
-/
namespace Go.Vc
open Go Go.Proofs Go.RowKit
/-! ### counters -/
/-- A variable of two whole numbers. -/
def MtAt (w : World) (b : Nat) : Prop := ∃ (t : TypeId) (a d : Int), w.heap[b]? = some (.cells #[.int .i64 a, .int .i64 d] t (0, 0))
theorem MtAt.stp {ex : List Nat} {u w : World} {b : Nat} (h : MtAt u b) (hs : Stp ex u w) (hb : b ∉ ex) : MtAt w b := by
  obtain ⟨t, a, d, h⟩ := h
  exact ⟨t, a, d, by rw [hs.past b (Array.getElem?_eq_some_iff.1 h).1 hb]; exact h⟩
theorem MtAt.lt {w : World} {b : Nat} (h : MtAt w b) : b < w.heap.size := by
  obtain ⟨t, a, d, h⟩ := h
  exact (Array.getElem?_eq_some_iff.1 h).1
theorem MtAt.cell {w : World} {b o : Nat} (h : MtAt w b) (ho : o < 2) : ∃ x : Int, w.cell? ⟨b, o, none⟩ = some (.int .i64 x) ∧ w.frozen? ⟨b, o, none⟩ = false ∧ ∀ y : Int, MtAt (w.setCell ⟨b, o, none⟩ (.int .i64 y)) b ∧ ∀ q, q ≠ b → (w.setCell ⟨b, o, none⟩ (.int .i64 y)).heap[q]? = w.heap[q]? := by
  obtain ⟨t, a, d, h⟩ := h
  match o, ho with
  | 0, _ =>
    refine ⟨a, by simp [World.cell?, h], frozen_of_row w b 0 _ t h, fun y => ⟨⟨t, y, d, ?_⟩, fun q hq => heap_setCell_other w ⟨b, 0, none⟩ q _ hq⟩⟩
    rw [heap_setCell_same w b 0 _ t _ h]; rfl
  | 1, _ =>
    refine ⟨d, by simp [World.cell?, h], frozen_of_row w b 1 _ t h, fun y => ⟨⟨t, a, y, ?_⟩, fun q hq => heap_setCell_other w ⟨b, 1, none⟩ q _ hq⟩⟩
    rw [heap_setCell_same w b 1 _ t _ h]; rfl
def cAtc : Cods (Nat × Nat) := ⟨fun _ l p => l = [.pointer (some ⟨p.1, p.2, none⟩), J 1], fun _ _ p q h k => by
  rw [h] at k
  simp only [List.cons.injEq, Value.pointer.injEq, Option.some.injEq, Addr.mk.injEq, and_true] at k
  exact Prod.ext k.1 k.2⟩
def cAdd64 : Contract := fnM cAtc (fun p w => 0 < p.1 ∧ p.2 < 2 ∧ MtAt w p.1) (fun p _ _ w' => MtAt w' p.1) (fun p b => b = p.1)
def cLoadc : Cods (Nat × Nat) := ⟨fun _ l p => l = [.pointer (some ⟨p.1, p.2, none⟩)], fun _ _ p q h k => by
  rw [h] at k
  simp only [List.cons.injEq, Value.pointer.injEq, Option.some.injEq, Addr.mk.injEq, and_true] at k
  exact Prod.ext k.1 k.2⟩
def cLoad64 : Contract := fnW cLoadc (fun p w => p.2 < 2 ∧ MtAt w p.1) (fun _ _ v _ => ∃ x : Int, v = .int .i64 x)
theorem fld64 (b o : Nat) (w : World) : (Instr.fieldAt 228 (.pointer (some ⟨b, o, none⟩)) 2).run Tryz.prog w = .ok (.pointer (some ⟨b, o, none⟩)) w := by kernel_rfl
set_option maxRecDepth 100000 in
theorem keepsAdd64 : Keeps1 Tryz.prog GT 162 cAdd64 := by
  refine ⟨fun args w hp => hp.elim, fun args w0 ⟨⟨b, o⟩, hrd, _, ho, hm⟩ hg => ?_⟩
  obtain rfl : args = _ := hrd
  dsimp only at ho hm
  obtain ⟨x, hc, hz, hset⟩ := hm.cell ho
  have hadd := run_call_add (P := Tryz.prog) Tryz.func189 (by kernel_rfl) (by kernel_rfl) (by kernel_rfl) .i64 (by kernel_rfl) (y := 1) (s := IntKind.i64.wrap (x + 1)) hc hz (by simp [Op.intArith])
  have hadd' : (callFunc 189 #[.pointer (some ⟨b, o, none⟩), J 1]).run Tryz.prog w0 = .ok (.value (.int .i64 (IntKind.i64.wrap (x + 1)))) (w0.setCell ⟨b, o, none⟩ (.int .i64 (IntKind.i64.wrap (x + 1)))) := hadd
  clear hadd
  have h1 := fld64 b o w0
  go_enter Tryz.func162, Tryz.ntmps162
  go_wp2
  refine ⟨rfl, _, results_tmp rfl _ _ _, _, rfl, fun p hp => ?_, rfl, rfl, rfl, by simp, fun q hq hn => (hset _).2 q fun e => hn ⟨(b, o), rfl, e⟩⟩
  obtain rfl : p = (b, o) := cAtc.inj w0 _ _ _ hp rfl
  exact ⟨(hset _).1, rfl, rfl, rfl, by simp, fun q hq hn => (hset _).2 q fun e => hn e⟩
set_option maxRecDepth 100000 in
theorem keepsLoad64 : Keeps1 Tryz.prog GT 163 cLoad64 := by
  refine ⟨fun args w hp => hp.elim, fun args w0 ⟨⟨b, o⟩, hrd, ho, hm⟩ hg => ?_⟩
  obtain rfl : args = _ := hrd
  dsimp only at ho hm
  obtain ⟨x, hc, hz, hset⟩ := hm.cell ho
  have hl := run_call_load (P := Tryz.prog) Tryz.func190 (by kernel_rfl) (by kernel_rfl) (by kernel_rfl) .i64 (by kernel_rfl) hc
  have h1 := fld64 b o w0
  go_enter Tryz.func163, Tryz.ntmps163
  go_wp2
  exact ⟨rfl, _, results_tmp rfl _ _ _, _, rfl, ⟨fun _ _ => ⟨x, rfl⟩, rfl, rfl, rfl, Nat.le_refl _, fun _ _ _ => rfl⟩, rfl, rfl, rfl, Nat.le_refl _, fun _ _ _ => rfl⟩
#print axioms keepsLoad64
/-! ### the meter -/
def ann148 : Ann := ⟨[], [], 70, [(162, true)], [4, 5, 6], none, [], []⟩
def kb148_0 (b0 b1 b2 : Nat) (x4 x5 x6 : Value) : List KB := [⟨b0, true, 31, (aggArr x4)⟩, ⟨b1, true, 31, (aggArr x5)⟩, ⟨b2, true, 31, (aggArr x6)⟩]
theorem vc148 (X : Ctx) (β : Nat → Nat) (x0 x1 x2 : Value) : (run Tryz.prog ann148 148 [.x (.v 0), .x (.v 1), .x (.v 2)] [] [] 4).den X (env0 [x0, x1, x2] X.w0) 4 β 0 (fun _ _ _ => False) = (
 Ask (rAgg 4 x1) fun x4 =>
 AskNew X.w0 fun b0 =>
 Ask (rAgg 4 x2) fun x5 =>
 AskNew X.w0 fun b1 =>
 Ask (rAgg 4 (.agg #[(U 0), (U 0), (U 0), (U 0)])) fun x6 =>
 AskNew X.w0 fun b2 =>
 Ask (rGen X.P (Op.nilCheck (Operand.tmp 7)) 0 [(7, x0)]) fun x7 =>
 Ask (rFad X.P 230 x7 0) fun x8 =>
 AskW X X.w0 [] (kb148_0 b0 b1 b2 x4 x5 x6) true 162 [x8, (J 1)] fun _ w9 =>
 Ask (rGen X.P (Op.makeInterface 31 (Operand.tmp 11)) 20 [(11, x4)]) fun x10 =>
 AskI X x10 "Add" [x5] fun x11 =>
 Ask (rAgg 4 x11) fun x12 =>
 Ret X w9 [b2] [] x12) := by kernel_rfl
def ann149 : Ann := ⟨[], [], 70, [(162, true)], [3, 4], none, [], []⟩
def kb149_0 (b0 b1 : Nat) (x3 x4 : Value) : List KB := [⟨b0, true, 31, (aggArr x3)⟩, ⟨b1, true, 31, (aggArr x4)⟩]
theorem vc149 (X : Ctx) (β : Nat → Nat) (x0 x1 : Value) : (run Tryz.prog ann149 149 [.x (.v 0), .x (.v 1)] [] [] 3).den X (env0 [x0, x1] X.w0) 3 β 0 (fun _ _ _ => False) = (
 Ask (rAgg 4 x1) fun x3 =>
 AskNew X.w0 fun b0 =>
 Ask (rAgg 4 (.agg #[(U 0), (U 0), (U 0), (U 0)])) fun x4 =>
 AskNew X.w0 fun b1 =>
 Ask (rGen X.P (Op.nilCheck (Operand.tmp 5)) 0 [(5, x0)]) fun x5 =>
 Ask (rFad X.P 230 x5 1) fun x6 =>
 AskW X X.w0 [] (kb149_0 b0 b1 x3 x4) true 162 [x6, (J 1)] fun _ w7 =>
 Ask (rGen X.P (Op.makeInterface 31 (Operand.tmp 9)) 20 [(9, x3)]) fun x8 =>
 AskI X x8 "Double" [] fun x9 =>
 Ask (rAgg 4 x9) fun x10 =>
 Ret X w7 [b1] [] x10) := by kernel_rfl
def ann151 : Ann := ⟨[], [], 70, [(163, false)], [], none, [], []⟩
def kb151_0 (b0 : Nat) : List KB := [⟨b0, true, 196, #[(J 0), (J 0)]⟩]
theorem vc151 (X : Ctx) (β : Nat → Nat) (x0 : Value) : (run Tryz.prog ann151 151 [.x (.v 0)] [] [] 2).den X (env0 [x0] X.w0) 2 β 0 (fun _ _ _ => False) = (
 AskNew X.w0 fun b0 =>
 Ask (rGen X.P (Op.nilCheck (Operand.tmp 3)) 0 [(3, x0)]) fun x2 =>
 Ask (rFad X.P 230 x2 0) fun x3 =>
 AskW X X.w0 [] (kb151_0 b0) false 163 [x3] fun x4 w4 =>
 Ask (rGen X.P (Op.nilCheck (Operand.tmp 7)) 0 [(7, x0)]) fun x5 =>
 Ask (rFad X.P 230 x5 1) fun x6 =>
 AskW X w4 [] (kb151_0 b0) false 163 [x6] fun x7 w7 =>
 Ask (rPlain x4) fun x8 =>
 Ask (rPlain x7) fun x9 =>
 Ask (rPlain x8) fun x10 =>
 Ask (rPlain x9) fun x11 =>
 Ret X w7 [b0] [] (.agg #[x10, x11])) := by kernel_rfl
theorem foldSj (n : Nat) : Value.agg #[U (lb n 0), U (lb n 1), U (lb n 2), U (lb n 3)] = S n := rfl
def Tpj : Table := (T0.add 29 cAddS).add 49 cMulS
theorem keepTpj : AllKeep Tryz.prog GT Tpj := (keepT0.add keepsAdd).add keepsMul
theorem keepsLAddF : Keeps1 Tryz.prog GT 31 cqAdd := by
  have h : Keeps1 Tryz.prog GT 31 cAddS := by
    refine keepsP (T := Tpj) (A := ann31) inj2 hMix keepTpj hGT (fun f hf => by
        simp only [ann31, List.mem_cons, List.not_mem_nil, or_false] at hf
        rcases hf with rfl <;> intros <;> kernel_rfl) (fun f hf => by cases hf) fun ⟨a, b⟩ w0 ⟨ha, hb⟩ _ => ⟨[.x (.v 0), .x (.v 1)], [], [], 3, env0 [S a, S b] w0, fun b => b, 0, rfl, rfl, fun X hX => mem_none hX rfl, fun X hP hS hw hX hR => ?_⟩
    subst hw
    dsimp only at ha hb hR
    rw [vc31 X]
    rw [ask_aggS]; intro _ _; rw [ask_aggS]; intro _ _; rw [ask_zero4]; intro _ _
    refine call_PE hS (T := Tpj) (f := 29) rfl (a, b) ⟨ha, hb⟩ ?_
    dsimp only
    rw [ask_aggS, ask_selS0, ask_selS1, ask_selS2, ask_selS3, foldSj, ask_aggS]
    exact hR _ _ _ _ rfl
  have e : cAddS = cqAdd := by unfold cAddS cqAdd; simp only [val_addF]
  rwa [e] at h
theorem keepsLTimesF : Keeps1 Tryz.prog GT 218 cqMul := by
  have h : Keeps1 Tryz.prog GT 218 cMulS := by
    refine keepsP (T := Tpj) (A := ann218) inj2 hMix keepTpj hGT (fun f hf => by
        simp only [ann218, List.mem_cons, List.not_mem_nil, or_false] at hf
        rcases hf with rfl <;> intros <;> kernel_rfl) (fun f hf => by cases hf) fun ⟨a, b⟩ w0 ⟨ha, hb⟩ _ => ⟨[.x (.v 0), .x (.v 1)], [], [], 3, env0 [S a, S b] w0, fun b => b, 0, rfl, rfl, fun X hX => mem_none hX rfl, fun X hP hS hw hX hR => ?_⟩
    subst hw
    dsimp only at ha hb hR
    rw [vc218 X]
    rw [ask_aggS]; intro _ _; rw [ask_aggS]; intro _ _; rw [ask_zero4]; intro _ _
    refine call_PE hS (T := Tpj) (f := 49) rfl (a, b) ⟨ha, hb⟩ ?_
    dsimp only
    rw [ask_aggS, ask_selS0, ask_selS1, ask_selS2, ask_selS3, foldSj, ask_aggS]
    exact hR _ _ _ _ rfl
  rwa [cMulS_q] at h
def cqDbl : Contract := fnP enc1 (· < W256) (fun n v => v = S (rF n + rF n).val)
theorem keepsLDblF : Keeps1 Tryz.prog GT 217 cqDbl := by
  have h : Keeps1 Tryz.prog GT 217 (fnP enc1 (· < W256) (fun n v => v = S ((n + n) % lN))) := by
    refine keepsP (T := Tpj) (A := ann217) inj1 hMix keepTpj hGT (fun f hf => by
        simp only [ann217, List.mem_cons, List.not_mem_nil, or_false] at hf
        rcases hf with rfl <;> intros <;> kernel_rfl) (fun f hf => by cases hf) fun n w0 hn _ => ⟨[.x (.v 0)], [], [], 2, env0 [S n] w0, fun b => b, 0, rfl, rfl, fun X hX => mem_none hX rfl, fun X hP hS hw hX hR => ?_⟩
    subst hw
    rw [vc217 X]
    rw [ask_aggS]; intro _ _; rw [ask_zero4]; intro _ _
    refine call_PE hS (T := Tpj) (f := 29) rfl (n, n) ⟨hn, hn⟩ ?_
    dsimp only
    rw [ask_aggS, ask_selS0, ask_selS1, ask_selS2, ask_selS3, foldSj, ask_aggS]
    exact hR _ _ _ _ rfl
  have e : fnP enc1 (· < W256) (fun n v => v = S ((n + n) % lN)) = cqDbl := by unfold cqDbl; simp only [val_addF]
  rwa [e] at h
theorem methJTimes (a k : Nat) : Meth Tryz.prog (.iface 31 (S a)) "Times" [S k] 218 [S a, S k] := fun w => by kernel_rfl
theorem methJAdd (a k : Nat) : Meth Tryz.prog (.iface 31 (S a)) "Add" [S k] 31 [S a, S k] := fun w => by kernel_rfl
theorem methJDbl (a : Nat) : Meth Tryz.prog (.iface 31 (S a)) "Double" [] 217 [S a] := fun w => by kernel_rfl
theorem makeJL (x : Value) (w : World) : (Instr.makeInterface 31 x).run Tryz.prog w = .ok (.iface 31 x) w := by kernel_rfl
theorem a_mkL {K : Value → Prop} {P : Program} {a ty : Nat} {x : Value} (hP : P = Tryz.prog) (hK : K (.iface 31 x)) : Ask (rGen P (.makeInterface 31 (.tmp a)) ty [(a, x)]) K := by
  subst hP; rw [ask_makeIn (makeJL _)]; exact hK
theorem a_nilc {K : Value → Prop} {P : Program} {a ty b o : Nat} : Ask (rGen P (.nilCheck (.tmp a)) ty [(a, .pointer (some ⟨b, o, none⟩))]) K = K (.pointer (some ⟨b, o, none⟩)) :=
  ask_eq (runsN_iff fun w => by simp [execOp, argsFn])
theorem fdMt (j : Nat) (h : j < 2) : FdTy Tryz.prog 230 j j := by
  match j, h with
  | 0, _ => exact ⟨0, by kernel_rfl⟩
  | 1, _ => exact ⟨0, by kernel_rfl⟩
def cMadc : Cods (Nat × Nat × Nat) := ⟨fun _ l p => l = [.pointer (some ⟨p.1, 0, none⟩), S p.2.1, S p.2.2] ∧ p.2.1 < W256 ∧ p.2.2 < W256, fun _ _ ⟨a, b, c⟩ ⟨a', b', c'⟩ ⟨h, h1, h2⟩ ⟨k, k1, k2⟩ => by
  dsimp only at h h1 h2 k k1 k2
  rw [h] at k
  simp only [List.cons.injEq, Value.pointer.injEq, Option.some.injEq, Addr.mk.injEq, and_true] at k
  obtain ⟨e1, e2, e3⟩ := k
  rw [e1, S_inj h1 k1 e2, S_inj h2 k2 e3]⟩
def cMad : Contract := fnM cMadc (fun p w => 0 < p.1 ∧ MtAt w p.1) (fun p _ v w' => v = S (rF p.2.1 + rF p.2.2).val ∧ MtAt w' p.1) (fun p b => b = p.1)
def Tjm : Table := (((T0.add 162 cAdd64).add 163 cLoad64).add 31 cqAdd).add 217 cqDbl
theorem keepTjm : AllKeep Tryz.prog GT Tjm := (((keepT0.add keepsAdd64).add keepsLoad64).add keepsLAddF).add keepsLDblF
theorem hGTM : ∀ (md : Nat → Prop) (w0 w : World), (∀ b, md b → 0 < b) → GT w0 → (∀ b, b < w0.heap.size → ¬ md b → w.heap[b]? = w0.heap[b]?) → w0.heap.size ≤ w.heap.size → GT w := fun md w0 w h0 hg h hs =>
  ⟨Nat.lt_of_lt_of_le hg.1 hs, fun i v hi => by
    have := hg.2 i v hi
    rw [World.cell?_of_block (w := w0) (h 0 hg.1 fun hm => Nat.lt_irrefl _ (h0 0 hm))]; exact this⟩
theorem keepsMadd : Keeps1 Tryz.prog GT 148 cMad := by
  refine keepsM (T := Tjm) (A := ann148) hMix keepTjm (fun a w0 w args _ hp hg h hs => hGTM _ w0 w (fun b hb => by rw [hb]; exact hp.1) hg h hs) (calls_of (by kernel_rfl)) (callsW_of (by kernel_rfl)) fun args ⟨b, x, y⟩ w0 hrd hpre hg => ?_
  obtain ⟨rfl, hx, hy⟩ := hrd
  obtain ⟨hb, hm⟩ := hpre
  dsimp only at hx hy hb hm
  refine ⟨[.x (.v 0), .x (.v 1), .x (.v 2)], [], [], 4, env0 [.pointer (some ⟨b, 0, none⟩), S x, S y] w0, fun b => b, 0, rfl, rfl, fun X hX => mem_none hX rfl, fun X hP hS hw hX hR => ?_⟩
  subst hw; try dsimp only at hR
  rw [vc148 X]
  have lb' := hm.lt
  rw [ask_aggS]; intro b0 hb0
  rw [ask_aggS]; intro b1 hb1
  rw [ask_zero4]; intro b2 hb2
  rw [a_nilc]
  refine a_fadP hP (fdMt 0 (by decide)) ?_
  refine call_M hX.n hS (T := Tjm) (f := 162) rfl (b, 0) (fun w hw => ⟨rfl, hb, by show 0 < 2; decide, hm.stp hw.stp List.not_mem_nil⟩) [b] (fun q hq => by simp [hq]) (fun q hq => ?_) fun v w w' hw hk hs hsu hp => ?_
  · simp only [List.mem_singleton] at hq
    subst hq
    refine ⟨(hX q).2 (.inr rfl), fun h => ?_⟩
    simp only [kb148_0, List.map_cons, List.map_nil, List.mem_cons, List.not_mem_nil, or_false] at h
    omega
  dsimp only at hp
  refine a_mkL hP ?_
  refine call_I hP hS (T := Tjm) (f := 31) rfl (x, y) (methJAdd x y) ⟨hx, hy⟩ ?_
  rw [ask_aggS]
  exact hR _ _ _ _ fun w hw => ⟨rfl, hp.stp hw.stp (by simp; omega)⟩
def cMdbc : Cods (Nat × Nat) := ⟨fun _ l p => l = [.pointer (some ⟨p.1, 0, none⟩), S p.2] ∧ p.2 < W256, fun _ _ ⟨a, b⟩ ⟨a', b'⟩ ⟨h, h1⟩ ⟨k, k1⟩ => by
  dsimp only at h h1 k k1
  rw [h] at k
  simp only [List.cons.injEq, Value.pointer.injEq, Option.some.injEq, Addr.mk.injEq, and_true] at k
  obtain ⟨e1, e2⟩ := k
  rw [e1, S_inj h1 k1 e2]⟩
def cMdb : Contract := fnM cMdbc (fun p w => 0 < p.1 ∧ MtAt w p.1) (fun p _ v w' => v = S (rF p.2 + rF p.2).val ∧ MtAt w' p.1) (fun p b => b = p.1)
theorem keepsMdbl : Keeps1 Tryz.prog GT 149 cMdb := by
  refine keepsM (T := Tjm) (A := ann149) hMix keepTjm (fun a w0 w args _ hp hg h hs => hGTM _ w0 w (fun b hb => by rw [hb]; exact hp.1) hg h hs) (calls_of (by kernel_rfl)) (callsW_of (by kernel_rfl)) fun args ⟨b, x⟩ w0 hrd hpre hg => ?_
  obtain ⟨rfl, hx⟩ := hrd
  obtain ⟨hb, hm⟩ := hpre
  dsimp only at hx hb hm
  refine ⟨[.x (.v 0), .x (.v 1)], [], [], 3, env0 [.pointer (some ⟨b, 0, none⟩), S x] w0, fun b => b, 0, rfl, rfl, fun X hX => mem_none hX rfl, fun X hP hS hw hX hR => ?_⟩
  subst hw; try dsimp only at hR
  rw [vc149 X]
  have lb' := hm.lt
  rw [ask_aggS]; intro b0 hb0
  rw [ask_zero4]; intro b1 hb1
  rw [a_nilc]
  refine a_fadP hP (fdMt 1 (by decide)) ?_
  refine call_M hX.n hS (T := Tjm) (f := 162) rfl (b, 1) (fun w hw => ⟨rfl, hb, by show 1 < 2; decide, hm.stp hw.stp List.not_mem_nil⟩) [b] (fun q hq => by simp [hq]) (fun q hq => ?_) fun v w w' hw hk hs hsu hp => ?_
  · simp only [List.mem_singleton] at hq
    subst hq
    refine ⟨(hX q).2 (.inr rfl), fun h => ?_⟩
    simp only [kb149_0, List.map_cons, List.map_nil, List.mem_cons, List.not_mem_nil, or_false] at h
    omega
  dsimp only at hp
  refine a_mkL hP ?_
  refine call_I hP hS (T := Tjm) (f := 217) rfl x (methJDbl x) hx ?_
  rw [ask_aggS]
  exact hR _ _ _ _ fun w hw => ⟨rfl, hp.stp hw.stp (by simp; omega)⟩
def cMcoc : Cods Nat := ⟨fun _ l p => l = [.pointer (some ⟨p, 0, none⟩)], fun _ _ a b h k => by
  rw [h] at k
  simpa using k⟩
def cMco : Contract := fnW cMcoc (fun p w => MtAt w p) (fun _ _ v _ => ∃ x y : Int, v = .agg #[.int .i64 x, .int .i64 y])
theorem keepsMcost : Keeps1 Tryz.prog GT 151 cMco := by
  refine keepsW (T := Tjm) (A := ann151) hMix keepTjm hGT (calls_of (by kernel_rfl)) (callsW_of (by kernel_rfl)) fun args b w0 hrd hpre hg => ?_
  obtain rfl : args = _ := hrd
  refine ⟨[.x (.v 0)], [], [], 2, env0 [.pointer (some ⟨b, 0, none⟩)] w0, fun b => b, 0, rfl, rfl, fun X hX => mem_none hX rfl, fun X hP hS hw hX hR => ?_⟩
  subst hw; try dsimp only at hR
  rw [vc151 X]
  intro b0 hb0
  have lb' := hpre.lt
  rw [a_nilc]
  refine a_fadP hP (fdMt 0 (by decide)) ?_
  refine call_W hX hS (T := Tjm) (f := 163) rfl (b, 0) (fun w hw => ⟨rfl, by show 0 < 2; decide, hpre.stp hw.stp List.not_mem_nil⟩) fun v w w' hw hk hs hsu hp => ?_
  obtain ⟨x, rfl⟩ := hp
  rw [a_nilc]
  refine a_fadP hP (fdMt 1 (by decide)) ?_
  refine call_W hX hS (T := Tjm) (f := 163) rfl (b, 1) (fun w hw => ⟨rfl, by show 1 < 2; decide, hpre.stp (hsu.trans0 hw.stp) List.not_mem_nil⟩) fun v w2 w2' hw2 hk2 hs2 hsu2 hp2 => ?_
  obtain ⟨y, rfl⟩ := hp2
  iterate 4 refine a_plain rfl ?_
  exact hR _ _ _ _ fun _ _ => ⟨x, y, rfl⟩
/-! ### digits -/
section
variable {P : Program} {K : Value → Prop} {t : TypeId} {cx cy : Bool}
theorem ask_shrB {a s : Nat} (hs : s < 8) : Ask (rBin P .shr t cx cy (B a) (J s)) K = K (B (a / 2 ^ s)) := by
  refine ask_eq (runs_iff fun w => ?_)
  have hm : min s IntKind.u8.bits = s := by simp only [IntKind.bits]; omega
  have hw : ((a : Int).fdiv (2 ^ s)) = ((a / 2 ^ s : Nat) : Int) := by
    rw [Int.fdiv_eq_ediv_of_nonneg _ (by exact Int.le_of_lt (Int.pow_pos (by omega)))]
    simp
  simp [binSem, eqGuard, binOp, B]
theorem ask_andB {a : Nat} (ha : a < 256) : Ask (rBin P .and t cx cy (B a) (.int .u8 1)) K = K (B (a % 2)) := by
  rw [show (Value.int .u8 1) = B 1 from rfl]
  unfold B; rw [ask_and]
  congr 2
  have : (BitVec.ofInt IntKind.u8.bits (a : Int) &&& BitVec.ofInt IntKind.u8.bits ((1 : Nat) : Int)).toNat = a &&& 1 := by
    rw [BitVec.toNat_and]
    simp only [BitVec.ofInt_natCast, BitVec.toNat_ofNat, IntKind.bits]
    rw [Nat.mod_eq_of_lt (by omega), Nat.mod_eq_of_lt (by omega)]
  rw [this, Nat.and_one_is_mod, wrap_u8, Nat.mod_eq_of_lt (by omega)]
theorem ask_orJ {a b : Nat} (ha : a < 2 ^ 62) (hb : b < 2 ^ 62) : Ask (rBin P .or t cx cy (J a) (J b)) K = K (J (a ||| b)) := by
  rw [ask_or]
  congr 2
  have h1 : (BitVec.ofInt IntKind.i64.bits (a : Int) ||| BitVec.ofInt IntKind.i64.bits (b : Int)).toNat = a ||| b := by
    rw [BitVec.toNat_or]
    simp only [BitVec.ofInt_natCast, BitVec.toNat_ofNat, IntKind.bits]
    rw [Nat.mod_eq_of_lt (by omega), Nat.mod_eq_of_lt (by omega)]
  have h2 : a ||| b < 2 ^ 62 := Nat.or_lt_two_pow ha hb
  rw [h1, wrap_i64 (by omega) (by omega)]
theorem ask_b2j {a : Nat} (ha : a < 256) : Ask (rConv Tryz.prog 5 3 (B a)) K = K (J a) :=
  ask_eq (runs_iff fun w => by
    have h1 : (convert 5 3 (B a)).run Tryz.prog w = .ok (.int .i64 (IntKind.i64.wrap (a : Int))) w := by kernel_rfl
    rw [h1, wrap_i64 (by omega) (by omega)])
end
theorem bt_bit (n k : Nat) : bt n (k / 8) / 2 ^ (k % 8) % 2 = n / 2 ^ k % 2 := by
  have e1 : (256 : Nat) ^ (k / 8) = 2 ^ (8 * (k / 8)) := by rw [Nat.pow_mul]
  have e2 : 2 ^ k = 2 ^ (8 * (k / 8)) * 2 ^ (k % 8) := by rw [← Nat.pow_add]; congr 1; omega
  have e3 : 256 = 2 ^ (k % 8) * 2 ^ (8 - k % 8) := by rw [← Nat.pow_add, show k % 8 + (8 - k % 8) = 8 by omega]
  have e4 : 2 ^ (8 - k % 8) = 2 * 2 ^ (7 - k % 8) := by rw [← Nat.pow_succ']; congr 1; omega
  rw [bt, e1, e2, ← Nat.div_div_eq_div_mul]
  generalize n / 2 ^ (8 * (k / 8)) = m
  rw [e3, Nat.mod_mul_right_div_self, e4, Nat.mod_mul_right_mod]
theorem dig_step (m k : Nat) : m % 2 ^ (k + 1) = m % 2 ^ k + m / 2 ^ k % 2 * 2 ^ k := by
  rw [Nat.pow_succ, Nat.mod_mul]; rw [Nat.mul_comm (2 ^ k)]
/-- Digit i to the base 2^w. -/
def dig (n w i : Nat) : Nat := n / 2 ^ (w * i) % 2 ^ w
def cWinc : Cods (Nat × Nat × Nat) := ⟨fun w l p => ∃ b o, l = [.pointer (some ⟨b, o, none⟩), J p.2.1, J p.2.2] ∧ p.1 < W256 ∧ ∀ j, j < 32 → w.cell? ⟨b, o + j, none⟩ = some (B (bt p.1 j)), fun w l ⟨n, a, c⟩ ⟨n', a', c'⟩ ⟨b, o, h, h1, h2⟩ ⟨b', o', k, k1, k2⟩ => by
  dsimp only at h h1 h2 k k1 k2
  rw [h] at k
  simp only [List.cons.injEq, Value.pointer.injEq, Option.some.injEq, Addr.mk.injEq, and_true] at k
  obtain ⟨⟨e1, e2⟩, e3, e4⟩ := k
  subst e1 e2
  have e3 := J_injI e3
  have e4 := J_injI e4
  have e : n = n' := by
    refine BS_inj h1 k1 ?_
    unfold BS
    rw [encB_range, encB_range]
    congr 2
    refine List.map_congr_left fun j hj => ?_
    have hj := List.mem_range.1 hj
    exact Option.some.inj ((h2 j hj).symm.trans (k2 j hj))
  rw [e, e3, e4]⟩
def ann150 : Ann := ⟨[(3, ([7, 11], []))], [], 70, [], [], none, [], []⟩
theorem vc150 (X : Ctx) (β : Nat → Nat) (x0 x1 x2 : Value) : (run Tryz.prog ann150 150 [.x (.v 0), .x (.v 1), .x (.v 2)] [] [] 4).den X (env0 [x0, x1, x2] X.w0) 4 β 0 (fun _ _ _ => False) = (
 ∃ (I0 : List Value → World → Prop) (μ0 : List Value → World → Nat), (∀ w, KnownV X X.w0 [] [] w → I0 [(J 0), (J 0)] w) ∧ ∀ x4 x5 w6, I0 [x4, x5] w6 →
 Ask (rBin X.P .lss 3 false false x5 x1) fun x7 =>
 (∃ t, x7 = .bool t) ∧ (x7 = .bool true →
 Ask (rBin X.P .mul 3 false false x1 x2) fun x8 =>
 Ask (rBin X.P .add 3 false false x8 x5) fun x9 =>
 Ask (rBin X.P .lss 3 false true x9 (J 256)) fun x10 =>
 (∃ t, x10 = .bool t) ∧ (x10 = .bool true →
 Ask (rBin X.P .quo 3 false true x9 (J 8)) fun x11 =>
 Ask (rGen X.P (Op.nilCheck (Operand.tmp 22)) 0 [(22, x0)]) fun x12 =>
 Ask (rIad X.P 238 x12 x11) fun x13 =>
 Ask (rLoad X w6 [] 5 x13) fun x14 =>
 Ask (rBin X.P .rem 3 false true x9 (J 8)) fun x15 =>
 Ask (rBin X.P .shr 5 false false x14 x15) fun x16 =>
 Ask (rBin X.P .and 5 false true x16 (.int .u8 1)) fun x17 =>
 Ask (rConv X.P 5 3 x17) fun x18 =>
 Ask (rBin X.P .shl 3 false false x18 x5) fun x19 =>
 Ask (rBin X.P .or 3 false false x4 x19) fun x20 =>
 Ask (rBin X.P .add 3 false true x5 (J 1)) fun x21 =>
 Again X w6 [] [] fun w => I0 [x20, x21] w ∧ μ0 [x20, x21] w < μ0 [x4, x5] w6) ∧ (x10 = .bool false →
 Ask (rBin X.P .add 3 false true x5 (J 1)) fun x11 =>
 Again X w6 [] [] fun w => I0 [x4, x11] w ∧ μ0 [x4, x11] w < μ0 [x4, x5] w6)) ∧ (x7 = .bool false →
 Ret X w6 [] [] x4)) := by kernel_rfl
def cWin : Contract := fnW cWinc (fun p _ => p.2.1 ≤ 8 ∧ p.2.2 ≤ 256) (fun p _ v _ => v = J (dig p.1 p.2.1 p.2.2))
theorem aggBy : agg? Tryz.prog 5 = some false := by kernel_rfl
theorem arrB32 : Tryz.prog.underlying 238 = some (.array 32 5) := by kernel_rfl
theorem szBy : sz Tryz.prog 5 = some 1 := by kernel_rfl
theorem keepsWin : Keeps1 Tryz.prog GT 150 cWin := by
  refine keepsW (T := T0) (A := ann150) hMix keepT0 hGT (calls_of (by kernel_rfl)) (callsW_of (by kernel_rfl)) fun args ⟨n, a, i⟩ w0 hrd hpre hg => ?_
  obtain ⟨b, o, rfl, hn, hc⟩ := hrd
  obtain ⟨ha, hi⟩ := hpre
  dsimp only at hn hc ha hi
  refine ⟨[.x (.v 0), .x (.v 1), .x (.v 2)], [], [], 4, env0 [.pointer (some ⟨b, o, none⟩), J a, J i] w0, fun b => b, 0, rfl, rfl, fun X hX => mem_none hX rfl, fun X hP hS hw hX hR => ?_⟩
  subst hw; try dsimp only at hR
  rw [vc150 X]
  have hai : a * i ≤ 2048 := Nat.le_trans (Nat.mul_le_mul ha hi) (by decide)
  refine ⟨fun q w => ∃ k, q = [J (n / 2 ^ (a * i) % 2 ^ k), J k] ∧ k ≤ a ∧ Kn X w, fun q _ => match q with | [_, k] => a - intNat k | _ => 0, fun w hw => ⟨0, by simp [Nat.mod_one], Nat.zero_le _, hw.kn⟩, ?_⟩
  rintro _ _ w ⟨k, he, hk, hkn⟩
  simp only [List.cons.injEq, and_true] at he
  obtain ⟨rfl, rfl⟩ := he
  rw [ask_lssN]
  refine a_ifD (fun hlt => ?_) fun hge => ?_
  · rw [ask_mulN (by omega), ask_addN (by omega), ask_lssN]
    have step := dig_step (n / 2 ^ (a * i)) k
    rw [Nat.div_div_eq_div_mul, ← Nat.pow_add] at step
    refine a_ifD (fun h256 => ?_) fun h256 => ?_
    · rw [ask_quoN (by decide) (by omega), a_nilc]
      refine a_iadP hP arrB32 szBy (by omega) ?_
      rw [Nat.mul_one]
      have hcw := cell_stp (hc ((a * i + k) / 8) (by omega)) (hkn.stp0 hX) List.not_mem_nil
      refine a_ldc hkn (by rw [hP]; exact aggBy) hcw List.not_mem_nil ?_
      have hm8 : (a * i + k) % 8 < 8 := Nat.mod_lt _ (by decide)
      have hb := bt_lt n ((a * i + k) / 8)
      have hb2 : bt n ((a * i + k) / 8) / 2 ^ ((a * i + k) % 8) < 256 := Nat.lt_of_le_of_lt (Nat.div_le_self _ _) hb
      rw [ask_remN (by decide), ask_shrB hm8, ask_andB hb2, hP, ask_b2j (by omega), bt_bit]
      have h2k : 2 ^ k ≤ 256 := Nat.le_trans (Nat.pow_le_pow_right (by decide) (show k ≤ 8 by omega)) (by decide)
      have hbit : n / 2 ^ (a * i + k) % 2 < 2 := Nat.mod_lt _ (by decide)
      have hlo : n / 2 ^ (a * i) % 2 ^ k < 2 ^ k := Nat.mod_lt _ (Nat.pow_pos (by decide))
      have hmul : n / 2 ^ (a * i + k) % 2 * 2 ^ k ≤ 1 * 256 := Nat.mul_le_mul (by omega) h2k
      rw [ask_shlN (by omega) (by omega), ask_orJ (by omega) (by omega), Nat.or_comm, or_low (k := k) (Nat.mul_mod_left _ _) hlo, Nat.add_comm, ← step, ask_succ (by omega)]
      intro w2 hw2
      exact ⟨⟨k + 1, rfl, hlt, hw2.kn⟩, by simp [intNat]; omega⟩
    · rw [ask_succ (by omega)]
      intro w2 hw2
      have hz : n / 2 ^ (a * i + k) = 0 := Nat.div_eq_of_lt (Nat.lt_of_lt_of_le hn (Nat.le_trans (show W256 ≤ 2 ^ 256 by decide) (Nat.pow_le_pow_right (by decide) (by omega))))
      rw [hz, Nat.zero_mod, Nat.zero_mul] at step
      exact ⟨⟨k + 1, by rw [show n / 2 ^ (a * i) % 2 ^ (k + 1) = n / 2 ^ (a * i) % 2 ^ k from step], hlt, hw2.kn⟩, by simp [intNat]; omega⟩
  · obtain rfl : k = a := by omega
    exact hR _ _ _ _ fun _ _ => rfl
#print axioms keepsWin
/-! ### terms, and their scalars' bytes -/
def okTj (p : Nat × Nat) : Prop := okS p.1 ∧ okS p.2
theorem encT_injj {a b : Nat × Nat} (ha : okTj a) (hb : okTj b) (h : encT a = encT b) : a = b := by
  obtain ⟨h1, h2⟩ := List.append_inj h rfl
  exact Prod.ext (encS_inj ha.1 hb.1 h1) (encS_inj ha.2 hb.2 h2)
def cTj : Cod (List (Nat × Nat)) := cL encT okTj 8 encT_len (fun _ _ ha hb h => encT_injj ha hb h)
abbrev LsT := Ls encT okTj
/-- Filled from the left. -/
def filG {α : Type} (f : Nat → α) (z : α) (i n : Nat) : List α := mapN (fun j => if j < i then f j else z) n
section
variable {α : Type} (f : Nat → α) (z : α)
theorem filG_len (i n : Nat) : (filG f z i n).length = n := mapN_len _ _
theorem filG_zero (n : Nat) : List.replicate n z = filG f z 0 n := by
  refine List.ext_getElem (by simp [filG, mapN]) fun j h1 h2 => ?_
  simp [filG, mapN]
theorem filG_set (i n : Nat) : (filG f z i n).set i (f i) = filG f z (i + 1) n := by
  refine List.ext_getElem (by simp [filG, mapN]) fun j h1 h2 => ?_
  rw [List.getElem_set]
  simp only [filG, mapN, List.getElem_map, List.getElem_range]
  by_cases e : i = j
  · subst e; rw [if_pos rfl, if_pos (by omega)]
  · rw [if_neg e]
    by_cases q : j < i
    · rw [if_pos q, if_pos (by omega)]
    · rw [if_neg q, if_neg (by omega)]
theorem filG_full (n : Nat) : filG f z n n = mapN f n := mapN_congr fun i hi => by rw [if_pos hi]
end
theorem encB_len (n : Nat) : (encB n).length = 32 := rfl
theorem one_encB (n : Nat) : (encB n).all (·.oneCell') = true := by simp [encB, B, Value.oneCell']
theorem tyB32 : ElTy Tryz.prog 231 238 32 32 (BS 0) := ⟨by kernel_rfl, by kernel_rfl⟩
theorem szB32 : sz Tryz.prog 238 = some 32 := by kernel_rfl
theorem one_encTj (p : Nat × Nat) : (encT p).all (·.oneCell') = true := by simp [encT, encS, U, Value.oneCell']
theorem own_offj {w : World} {base size n : Nat} {e : TypeId} {v : Value} {xs : List Value} (h : w.ownsRow base e size v n xs) {b : Nat} (hb : w.heap.size ≤ b) : ∀ g, v.ownBlock = some g → g ∉ [b] := fun g hg hm => by
  have := (h.lt g hg).2
  simp at hm; omega
def ann147 : Ann := ⟨[(3, ([11], []))], [161], 70, [], [], none, [], []⟩
def kb147_0 (b0 : Nat) (x11 x12 x13 x14 x15 x16 x17 x18 : Value) : List KB := [⟨b0, true, 142, #[x11, x12, x13, x14, x15, x16, x17, x18]⟩]
theorem vc147 (X : Ctx) (β : Nat → Nat) (x0 : Value) : (run Tryz.prog ann147 147 [.x (.v 0)] [] [] 2).den X (env0 [x0] X.w0) 2 β 0 (fun _ _ _ => False) = (
 Ask (rLen X.P 143 x0) fun x2 =>
 AskO X X.w0 [] [] false (Op.makeSlice 231 (Operand.tmp 7) (Operand.tmp 7)) 231 [(7, x2), (7, x2)] fun x3 w3 =>
 Ask (rLen X.P 143 x0) fun x4 =>
 ∃ (I0 : List Value → World → Prop) (μ0 : List Value → World → Nat), (∀ w, KnownV X w3 [] [] w → I0 [(J 0)] w) ∧ ∀ x5 w6, I0 [x5] w6 →
 Ask (rBin X.P .lss 3 false false x5 x4) fun x7 =>
 (∃ t, x7 = .bool t) ∧ (x7 = .bool true →
 Ask (rIad X.P 143 x0 x5) fun x8 =>
 Ask (rLoad X w6 [] 142 x8) fun x9 =>
 AskNew w6 fun b0 =>
 Ask (rAgg 8 x9) fun x10 =>
 Ask (rSel (aggArr x10) 0 1 false) fun x11 =>
 Ask (rSel (aggArr x10) 1 1 false) fun x12 =>
 Ask (rSel (aggArr x10) 2 1 false) fun x13 =>
 Ask (rSel (aggArr x10) 3 1 false) fun x14 =>
 Ask (rSel (aggArr x10) 4 1 false) fun x15 =>
 Ask (rSel (aggArr x10) 5 1 false) fun x16 =>
 Ask (rSel (aggArr x10) 6 1 false) fun x17 =>
 Ask (rSel (aggArr x10) 7 1 false) fun x18 =>
 AskF X 161 [(.agg #[x11, x12, x13, x14])] fun x19 =>
 Ask (rIad X.P 231 x3 x5) fun x20 =>
 AskO X w6 [b0] (kb147_0 b0 x11 x12 x13 x14 x15 x16 x17 x18) true (Op.store 238 (Operand.tmp 21) (Operand.tmp 20)) 0 [(21, x20), (20, x19)] fun _ w21 =>
 Ask (rBin X.P .add 3 false true x5 (J 1)) fun x22 =>
 Again X w21 [] [] fun w => I0 [x22] w ∧ μ0 [x22] w < μ0 [x5] w6) ∧ (x7 = .bool false →
 Ret X w6 [] [] x3)) := by kernel_rfl
/-- The number that term j's scalar stands for. -/
def kT (ts : List (Nat × Nat)) (j : Nat) : Nat := (ts.getD j (0, 0)).1 % lN
def cEcd : Contract := fnW (Cods.cons cTj Cods.nil) (fun p _ => p.1.length ≤ 1000) (fun p w v w' => w'.ownsRow w.heap.size 238 32 v p.1.length ((mapN (kT p.1) p.1.length).flatMap encB))
def Tje : Table := T0.add 161 cEncS
theorem keepTje : AllKeep Tryz.prog GT Tje := keepT0.add keepsEnc
theorem getD_ltj {α : Type} {l : List α} {i : Nat} (d : α) (h : i < l.length) : l.getD i d = l[i] := by
  rw [List.getD_eq_getElem?_getD, List.getElem?_eq_getElem h]; rfl
theorem keepsEcd : Keeps1 Tryz.prog GT 147 cEcd := by
  refine keepsW (T := Tje) (A := ann147) hMix keepTje hGT (calls_of (by kernel_rfl)) (callsW_of (by kernel_rfl)) fun args ⟨ts, _⟩ w0 hrd hpre hg => ?_
  obtain ⟨x, _, rfl, hl, rfl⟩ := hrd
  dsimp only at hl hpre
  replace hl : LsT w0 x ts := hl
  refine ⟨[.x (.v 0)], [], [], 2, env0 [x] w0, fun b => b, 0, rfl, rfl, fun X hX => mem_none hX rfl, fun X hP hS hw hX hR => ?_⟩
  subst hw; try dsimp only at hR
  rw [vc147 X]
  refine a_len hP tyT hl.1 ?_
  obtain ⟨n, hn⟩ : ∃ n, n = ts.length := ⟨_, rfl⟩
  rw [← hn] at hpre ⊢
  refine a_make (n := n) hX hP tyB32 (by simp [argsFn]) (by simp [argsFn]) (by omega) (by unfold maxLen; omega) fun g u1 w1 h1 k1 s1 su1 o1 => ?_
  rw [show (madeCells (BS 0).cells (n * 32)).toList = (List.replicate n 0).flatMap encB from made_enc (α := Nat) (enc := encB) (a := 0) (s := 32) rfl rfl (by decide) n, filG_zero (kT ts) 0 n] at o1
  have gb : ∀ g', (Value.slice (some ⟨g, 0, none⟩) n n).ownBlock = some g' → u1.heap.size ≤ g' ∧ g' < w1.heap.size := fun g' hg' => o1.lt g' hg'
  refine a_len hP tyT hl.1 ?_
  rw [← hn]
  refine ⟨fun q w => ∃ i, q = [J i] ∧ i ≤ n ∧ Kn X w ∧ w.ownsRow u1.heap.size 238 32 (.slice (some ⟨g, 0, none⟩) n n) n ((filG (kT ts) 0 i n).flatMap encB), fun q _ => match q with | i :: _ => n - intNat i | _ => 0, fun w hw => ⟨0, rfl, Nat.zero_le _, hw.kn, own_stp0 o1 hw.stp⟩, ?_⟩
  rintro _ w6 ⟨i, he, hi, hk, ho⟩
  simp only [List.cons.injEq, and_true] at he
  subst he
  rw [ask_lssN]
  refine a_ifD (fun hlt => ?_) fun hge => ?_
  · have hlt' : i < ts.length := by omega
    have okt := hl.2 _ (List.getElem_mem hlt')
    refine a_iadN hP tyT (hl.1.stp0 (hk.stp0 hX)) (by omega) ?_
    refine a_load_agg (cs := encT ts[i]) hk (hl.1.stp0 (hk.stp0 hX)) (by rw [hP]; exact aggT) (by rw [hP]; exact szT) (fun _ _ => List.not_mem_nil) (by simp [encT, encS]) (flat_at encT_len ts i _ (List.getElem?_eq_getElem hlt')) ?_
    intro b0 hb0
    refine a_agg rfl (one_encTj _) ?_
    iterate 8 refine a_sel1 rfl ?_
    rw [foldSj]
    refine call_PE hS (T := Tje) (f := 161) rfl ts[i].1 okt.1 ?_
    have ek : ts[i].1 % lN = kT ts i := by rw [kT, getD_ltj _ hlt']
    rw [ek]
    refine a_iadN hP tyB32 (own_slAt ho) hlt ?_
    refine a_store (vs := encB (kT ts i)) hX hP szB32 rfl rfl rfl rfl (one_encB _) ho h1.sz0 (by omega) (by decide) (own_offj ho hb0) (fun w4 hw4 g' hg' hm => by
      have h6 := gb g' hg'
      simp only [kb147_0, List.map_cons, List.map_nil, List.mem_cons, List.not_mem_nil, or_false] at hm
      have := k1.sz0
      have := ho.lt g' hg'
      omega) fun q w4 w5 hw4 hk5 hs5 hsu5 ho5 => ?_
    rw [lset_flat encB_len _ _ _ (by rw [filG_len]; exact hlt), filG_set] at ho5
    rw [ask_succ (by omega)]
    intro w2 hw2
    exact ⟨⟨i + 1, rfl, hlt, hw2.kn, own_stp0 ho5 hw2.stp⟩, by simp [intNat]; omega⟩
  · obtain rfl : i = n := by omega
    rw [filG_full] at ho
    refine hR _ _ _ _ fun w2 hw2 => ?_
    show w2.ownsRow _ _ _ _ ts.length _
    rw [← hn]
    exact own_mono (own_stp0 ho hw2.stp) h1.sz0
#print axioms keepsEcd
end Go.Vc

/-
  Sums by digits (Straus) over the lines.
-/
namespace Go.Vc
open Go Go.Proofs Go.RowKit
/-! ### in plain words -/
theorem sumF_one {f g : Nat → F} {k : Nat} {d : F} : ∀ n : Nat, k < n → (∀ i, i < n → i ≠ k → f i = g i) → f k = g k + d → sumF' f n = sumF' g n + d
  | 0, h, _, _ => by omega
  | n + 1, h, h1, h2 => by
    by_cases e : k = n
    · subst e
      rw [sumF', sumF', h2, sumF'_congr k fun i hi => h1 i (by omega) (by omega)]; grind
    · rw [sumF', sumF', sumF_one n (by omega) (fun i hi => h1 i (by omega)) h2, h1 n (by omega) (fun h => e h.symm)]; grind
theorem sumF_mulL (a : F) (f : Nat → F) : ∀ n : Nat, sumF' (fun i => a * f i) n = a * sumF' f n
  | 0 => by simp only [sumF']; grind
  | n + 1 => by simp only [sumF', sumF_mulL a f n]; grind
theorem sumF_zero {f : Nat → F} : ∀ n : Nat, (∀ i, i < n → f i = 0) → sumF' f n = 0
  | 0, _ => rfl
  | n + 1, h => by rw [sumF', sumF_zero n fun i hi => h i (by omega), h n (by omega)]; exact Lean.Grind.Semiring.add_zero _
def pT (ts : List (Nat × Nat)) (j : Nat) : Nat := (ts.getD j (0, 0)).2
/-- The sum of the terms. -/
def sumT (ts : List (Nat × Nat)) : F := sumF' (fun j => rF (kT ts j) * rF (pT ts j)) ts.length
/-- A multiple in a table: none, the element as it is, or the least. -/
def tbl (p : Nat) (d : Nat) : Nat := if d = 0 then 0 else if d = 1 then p else (rF d * rF p).val
theorem rF_tbl (p d : Nat) : rF (tbl p d) = rF d * rF p := by
  unfold tbl
  split
  · rename_i h; subst h; rw [rF_zero]; grind
  · split
    · rename_i h; subst h; rw [rF_one]; grind
    · rw [rF_val]
theorem tbl_lt {p : Nat} (hp : p < W256) (d : Nat) : tbl p d < W256 := by
  unfold tbl
  split
  · decide
  · split
    · exact hp
    · exact val_lt _
theorem tbl_step (p : Nat) {d : Nat} (hd : 2 ≤ d) : (rF (tbl p (d - 1)) + rF p).val = tbl p d := by
  rw [rF_tbl, tbl, if_neg (by omega), if_neg (by omega)]
  congr 1
  have : rF d = rF (d - 1) + 1 := by rw [← rF_one, ← rF_add, show d - 1 + 1 = d by omega]
  rw [this]; grind
def baseS (ts : List (Nat × Nat)) (w i : Nat) : F := sumF' (fun j => rF (kT ts j / 2 ^ (w * i)) * rF (pT ts j)) ts.length
def midS (ts : List (Nat × Nat)) (w i k : Nat) : F := sumF' (fun j => rF (if j < k then kT ts j / 2 ^ (w * i) else 2 ^ w * (kT ts j / 2 ^ (w * (i + 1)))) * rF (pT ts j)) ts.length
theorem mid_zero (ts : List (Nat × Nat)) (w i : Nat) : midS ts w i 0 = rF (2 ^ w) * baseS ts w (i + 1) := by
  rw [baseS, ← sumF_mulL]
  exact sumF'_congr _ fun j _ => by rw [if_neg (by omega), rF_mul]; grind
theorem mid_full (ts : List (Nat × Nat)) (w i : Nat) : midS ts w i ts.length = baseS ts w i := sumF'_congr _ fun j hj => by rw [if_pos hj]
theorem dig_split (n w i : Nat) : n / 2 ^ (w * i) = 2 ^ w * (n / 2 ^ (w * (i + 1))) + dig n w i := by
  have e : 2 ^ (w * (i + 1)) = 2 ^ (w * i) * 2 ^ w := by rw [← Nat.pow_add]; congr 1
  rw [dig, e, ← Nat.div_div_eq_div_mul]
  exact (Nat.div_add_mod _ _).symm
theorem mid_step (ts : List (Nat × Nat)) (w i : Nat) {k : Nat} (hk : k < ts.length) : midS ts w i (k + 1) = midS ts w i k + rF (dig (kT ts k) w i) * rF (pT ts k) := by
  refine sumF_one (k := k) ts.length hk (fun j _ hj => ?_) ?_
  · by_cases h : j < k
    · rw [if_pos h, if_pos (by omega)]
    · rw [if_neg h, if_neg (by omega)]
  · rw [if_pos (Nat.lt_succ_self _), if_neg (Nat.lt_irrefl _), dig_split (kT ts k) w i, rF_add]; grind
theorem kT_lt (ts : List (Nat × Nat)) (j : Nat) : kT ts j < lN := Nat.mod_lt _ lN_pos
theorem base_top (ts : List (Nat × Nat)) {w i : Nat} (h : 256 ≤ w * i) : baseS ts w i = 0 := sumF_zero _ fun j _ => by
  have h1 : kT ts j < 2 ^ 256 := Nat.lt_trans (kT_lt ts j) (by decide)
  rw [Nat.div_eq_of_lt (Nat.lt_of_lt_of_le h1 (Nat.pow_le_pow_right (by decide) h)), rF_zero]; grind
theorem base_zero (ts : List (Nat × Nat)) (w : Nat) : baseS ts w 0 = sumT ts := sumF'_congr _ fun j _ => by rw [Nat.mul_zero, Nat.pow_zero, Nat.div_one]
theorem dbl_step (a : F) (q : Nat) : rF (2 ^ q) * a + rF (2 ^ q) * a = rF (2 ^ (q + 1)) * a := by
  rw [Nat.pow_succ, rF_mul, show rF 2 = 1 + 1 by rw [← rF_one, ← rF_add]]; grind
/-! ### Straus -/
def ann137 : Ann := ⟨[(12, ([45], [0, 1, 2])), (17, ([14], [])), (23, ([15], [0, 1, 2])), (26, ([87], [2])), (30, ([95], [2]))], [], 70, [(147, false), (150, false), (151, false), (148, true), (149, true)], [4, 7], none, [37, 8], []⟩
def kb137_0 (b0 b1 b2 : Nat) (x3 x4 : Value) : List KB := [⟨b0, true, 31, (aggArr x3)⟩, ⟨b1, true, 196, #[(J 0), (J 0)]⟩, ⟨b2, true, 31, (aggArr x4)⟩]
def kb137_1 (b0 b1 b2 b3 : Nat) (x18 x19 x20 x21 x27 x28 x29 x30 x31 x32 x33 x34 : Value) : List KB := [⟨b0, true, 31, (aggArr x18)⟩, ⟨b1, true, 196, #[x19, x20]⟩, ⟨b2, true, 31, (aggArr x21)⟩, ⟨b3, true, 142, #[x27, x28, x29, x30, x31, x32, x33, x34]⟩]
def kb137_2 (b0 b1 b2 : Nat) (x18 x19 x20 x21 : Value) : List KB := [⟨b0, true, 31, (aggArr x18)⟩, ⟨b1, true, 196, #[x19, x20]⟩, ⟨b2, true, 31, (aggArr x21)⟩]
def kb137_3 (b0 b1 b2 : Nat) (x26 x27 x28 x29 : Value) : List KB := [⟨b0, true, 31, (aggArr x26)⟩, ⟨b1, true, 196, #[x27, x28]⟩, ⟨b2, true, 31, (aggArr x29)⟩]
def kb137_4 (b0 b1 b2 : Nat) (x26 x27 x28 x33 : Value) : List KB := [⟨b0, true, 31, (aggArr x26)⟩, ⟨b1, true, 196, #[x27, x28]⟩, ⟨b2, true, 31, (aggArr x33)⟩]
def kb137_5 (b0 b1 b2 : Nat) (x26 x27 x28 x38 : Value) : List KB := [⟨b0, true, 31, (aggArr x26)⟩, ⟨b1, true, 196, #[x27, x28]⟩, ⟨b2, true, 31, (aggArr x38)⟩]
theorem vc137 (X : Ctx) (β : Nat → Nat) (x0 x1 : Value) : (run Tryz.prog ann137 137 [.x (.v 0), .x (.v 1)] [] [] 3).den X (env0 [x0, x1] X.w0) 3 β 0 (fun _ _ _ => False) = (
 Ask (rAgg 4 (.agg #[(U 0), (U 0), (U 0), (U 0)])) fun x3 =>
 AskNew X.w0 fun b0 =>
 AskNew X.w0 fun b1 =>
 Ask (rAgg 4 (.agg #[(U 0), (U 0), (U 0), (U 0)])) fun x4 =>
 AskNew X.w0 fun b2 =>
 Ask (rBin X.P .lss 3 false true x0 (J 1)) fun x5 =>
 AskG [(x5, false)] (rBin X.P .gtr 3 false true x0 (J 8)) fun x6 =>
 Ask (rPick x5 (.bool true) x6) fun x7 =>
 (∃ t, x7 = .bool t) ∧ (x7 = .bool true →
 Ask (rAgg 4 x4) fun x8 =>
 Ret X X.w0 [b1, b0] [] (.tuple #[x8, (.agg #[(J 0), (J 0)]), (J 1)])) ∧ (x7 = .bool false →
 Ask (rLen X.P 143 x1) fun x8 =>
 Ask (rBin X.P .gtr 3 false true x8 (J 8192)) fun x9 =>
 (∃ t, x9 = .bool t) ∧ (x9 = .bool true →
 Ask (rAgg 4 x4) fun x10 =>
 Ret X X.w0 [b1, b0] [] (.tuple #[x10, (.agg #[(J 0), (J 0)]), (J 2)])) ∧ (x9 = .bool false →
 Ask (rLen X.P 143 x1) fun x10 =>
 Ask (rBin X.P .eql 3 false true x10 (J 0)) fun x11 =>
 (∃ t, x11 = .bool t) ∧ (x11 = .bool true →
 Ask (rAgg 4 x4) fun x12 =>
 Ret X X.w0 [b1, b0] [] (.tuple #[x12, (.agg #[(J 0), (J 0)]), (J 0)])) ∧ (x11 = .bool false →
 AskO X X.w0 [] (kb137_0 b0 b1 b2 x3 x4) false (Op.box 230 (Operand.tmp 36)) 223 [(36, (.agg #[(J 0), (J 0)]))] fun x12 w12 =>
 AskW X w12 [] (kb137_0 b0 b1 b2 x3 x4) false 147 [x1] fun x13 w13 =>
 Ask (rLen X.P 143 x1) fun x14 =>
 AskO X w13 [] (kb137_0 b0 b1 b2 x3 x4) false (Op.makeSlice 233 (Operand.tmp 41) (Operand.tmp 41)) 233 [(41, x14), (41, x14)] fun x15 w15 =>
 Ask (rLen X.P 143 x1) fun x16 =>
 ∃ (I0 : List Value → World → Prop) (μ0 : List Value → World → Nat), (∀ w, KnownV X w15 [] (kb137_0 b0 b1 b2 x3 x4) w → I0 [(J 0), x3, (J 0), (J 0), x4] w) ∧ ∀ x17 x18 x19 x20 x21 w22, I0 [x17, x18, x19, x20, x21] w22 →
 Ask (rBin X.P .lss 3 false false x17 x16) fun x23 =>
 (∃ t, x23 = .bool t) ∧ (x23 = .bool true →
 Ask (rIad X.P 143 x1 x17) fun x24 =>
 Ask (rLoad X w22 [] 142 x24) fun x25 =>
 AskNew w22 fun b3 =>
 Ask (rAgg 8 x25) fun x26 =>
 Ask (rSel (aggArr x26) 0 1 false) fun x27 =>
 Ask (rSel (aggArr x26) 1 1 false) fun x28 =>
 Ask (rSel (aggArr x26) 2 1 false) fun x29 =>
 Ask (rSel (aggArr x26) 3 1 false) fun x30 =>
 Ask (rSel (aggArr x26) 4 1 false) fun x31 =>
 Ask (rSel (aggArr x26) 5 1 false) fun x32 =>
 Ask (rSel (aggArr x26) 6 1 false) fun x33 =>
 Ask (rSel (aggArr x26) 7 1 false) fun x34 =>
 Ask (rBin X.P .shl 3 true false (J 1) x0) fun x35 =>
 AskO X w22 [b3] (kb137_1 b0 b1 b2 b3 x18 x19 x20 x21 x27 x28 x29 x30 x31 x32 x33 x34) false (Op.makeSlice 40 (Operand.tmp 51) (Operand.tmp 51)) 40 [(51, x35), (51, x35)] fun x36 w36 =>
 Ask (rIad X.P 40 x36 (J 1)) fun x37 =>
 AskO X w36 [] (kb137_1 b0 b1 b2 b3 x18 x19 x20 x21 x27 x28 x29 x30 x31 x32 x33 x34) true (Op.store 31 (Operand.tmp 56) (Operand.tmp 55)) 0 [(56, x37), (55, (.agg #[x31, x32, x33, x34]))] fun _ w38 =>
 ∃ (I1 : List Value → World → Prop) (μ1 : List Value → World → Nat), (∀ w, KnownV X w38 [] (kb137_1 b0 b1 b2 b3 x18 x19 x20 x21 x27 x28 x29 x30 x31 x32 x33 x34) w → I1 [(J 2)] w) ∧ ∀ x39 w40, I1 [x39] w40 →
 Ask (rLen X.P 40 x36) fun x41 =>
 Ask (rBin X.P .lss 3 false false x39 x41) fun x42 =>
 (∃ t, x42 = .bool t) ∧ (x42 = .bool true →
 Ask (rBin X.P .sub 3 false true x39 (J 1)) fun x43 =>
 Ask (rIad X.P 40 x36 x43) fun x44 =>
 Ask (rLoad X w40 [] 31 x44) fun x45 =>
 AskW X w40 [] (kb137_1 b0 b1 b2 b3 x18 x19 x20 x21 x27 x28 x29 x30 x31 x32 x33 x34) true 148 [x12, x45, (.agg #[x31, x32, x33, x34])] fun x46 w46 =>
 Ask (rIad X.P 40 x36 x39) fun x47 =>
 AskO X w46 [] (kb137_1 b0 b1 b2 b3 x18 x19 x20 x21 x27 x28 x29 x30 x31 x32 x33 x34) true (Op.store 31 (Operand.tmp 74) (Operand.tmp 73)) 0 [(74, x47), (73, x46)] fun _ w48 =>
 Ask (rBin X.P .add 3 false true x39 (J 1)) fun x49 =>
 Again X w48 [] [] fun w => I1 [x49] w ∧ μ1 [x49] w < μ1 [x39] w40) ∧ (x42 = .bool false →
 Ask (rIad X.P 233 x15 x17) fun x43 =>
 AskO X w40 [] (kb137_1 b0 b1 b2 b3 x18 x19 x20 x21 x27 x28 x29 x30 x31 x32 x33 x34) true (Op.store 40 (Operand.tmp 78) (Operand.tmp 77)) 0 [(78, x43), (77, x36)] fun _ w44 =>
 Ask (rBin X.P .add 3 false true x17 (J 1)) fun x45 =>
 Again X w44 [] [] fun w => I0 [x45, x18, x19, x20, x21] w ∧ μ0 [x45, x18, x19, x20, x21] w < μ0 [x17, x18, x19, x20, x21] w22)) ∧ (x23 = .bool false →
 Ask (rBin X.P .quo 3 true false (J 255) x0) fun x24 =>
 ∃ (I0 : List Value → World → Prop) (μ0 : List Value → World → Nat), (∀ w, KnownV X w22 [] (kb137_2 b0 b1 b2 x18 x19 x20 x21) w → I0 [x24, x18, x19, x20, x21] w) ∧ ∀ x25 x26 x27 x28 x29 w30, I0 [x25, x26, x27, x28, x29] w30 →
 Ask (rBin X.P .geq 3 false true x25 (J 0)) fun x31 =>
 (∃ t, x31 = .bool t) ∧ (x31 = .bool true →
 ∃ (I1 : List Value → World → Prop) (μ1 : List Value → World → Nat), (∀ w, KnownV X w30 [] (kb137_3 b0 b1 b2 x26 x27 x28 x29) w → I1 [(J 0), x29] w) ∧ ∀ x32 x33 w34, I1 [x32, x33] w34 →
 Ask (rBin X.P .lss 3 false false x32 x0) fun x35 =>
 (∃ t, x35 = .bool t) ∧ (x35 = .bool true →
 AskW X w34 [] (kb137_4 b0 b1 b2 x26 x27 x28 x33) true 149 [x12, x33] fun x36 w36 =>
 Ask (rAgg 4 x36) fun x37 =>
 Ask (rBin X.P .add 3 false true x32 (J 1)) fun x38 =>
 Again X w36 [b2] [] fun w => I1 [x38, x37] w ∧ μ1 [x38, x37] w < μ1 [x32, x33] w34) ∧ (x35 = .bool false →
 Ask (rLen X.P 143 x1) fun x36 =>
 ∃ (I1 : List Value → World → Prop) (μ1 : List Value → World → Nat), (∀ w, KnownV X w34 [] (kb137_4 b0 b1 b2 x26 x27 x28 x33) w → I1 [(J 0), x33] w) ∧ ∀ x37 x38 w39, I1 [x37, x38] w39 →
 Ask (rBin X.P .lss 3 false false x37 x36) fun x40 =>
 (∃ t, x40 = .bool t) ∧ (x40 = .bool true →
 Ask (rIad X.P 231 x13 x37) fun x41 =>
 AskW X w39 [] (kb137_5 b0 b1 b2 x26 x27 x28 x38) false 150 [x41, x0, x25] fun x42 w42 =>
 Ask (rBin X.P .gtr 3 false true x42 (J 0)) fun x43 =>
 (∃ t, x43 = .bool t) ∧ (x43 = .bool true →
 Ask (rIad X.P 233 x15 x37) fun x44 =>
 Ask (rLoad X w42 [] 40 x44) fun x45 =>
 Ask (rIad X.P 40 x45 x42) fun x46 =>
 Ask (rLoad X w42 [] 31 x46) fun x47 =>
 AskW X w42 [] (kb137_5 b0 b1 b2 x26 x27 x28 x38) true 148 [x12, x38, x47] fun x48 w48 =>
 Ask (rAgg 4 x48) fun x49 =>
 Ask (rBin X.P .add 3 false true x37 (J 1)) fun x50 =>
 Again X w48 [b2] [] fun w => I1 [x50, x49] w ∧ μ1 [x50, x49] w < μ1 [x37, x38] w39) ∧ (x43 = .bool false →
 Ask (rBin X.P .add 3 false true x37 (J 1)) fun x44 =>
 Again X w42 [] [] fun w => I1 [x44, x38] w ∧ μ1 [x44, x38] w < μ1 [x37, x38] w39)) ∧ (x40 = .bool false →
 Ask (rBin X.P .sub 3 false true x25 (J 1)) fun x41 =>
 Again X w39 [] [] fun w => I0 [x41, x26, x27, x28, x38] w ∧ μ0 [x41, x26, x27, x28, x38] w < μ0 [x25, x26, x27, x28, x29] w30))) ∧ (x31 = .bool false →
 AskW X w30 [] (kb137_3 b0 b1 b2 x26 x27 x28 x29) false 151 [x12] fun x32 w32 =>
 Ask (rAgg 4 x29) fun x33 =>
 Ask (rAgg 2 x32) fun x34 =>
 Ask (rSel (aggArr x34) 0 1 false) fun x35 =>
 Ask (rSel (aggArr x34) 1 1 false) fun x36 =>
 Ret X w32 [b1, b0] [] (.tuple #[x33, (.agg #[x35, x36]), (J 0)]))))))) := by kernel_rfl
def cStr : Contract := fnW (Cods.cons cJn' (Cods.cons cTj Cods.nil)) (fun p _ => 1 ≤ p.1 ∧ p.1 ≤ 8 ∧ p.2.1.length ≤ 1000) (fun p _ v _ => ∃ x y : Int, v = .tuple #[S (sumT p.2.1).val, .agg #[.int .i64 x, .int .i64 y], J 0])
def Tstr : Table := ((((T0.add 148 cMad).add 149 cMdb).add 151 cMco).add 147 cEcd).add 150 cWin
theorem keepTstr : AllKeep Tryz.prog GT Tstr := ((((keepT0.add keepsMadd).add keepsMdbl).add keepsMcost).add keepsEcd).add keepsWin
theorem tyLLj : ElTy Tryz.prog 233 40 1 24 (.slice none 0 0) := ⟨by kernel_rfl, by kernel_rfl⟩
theorem szLLj : sz Tryz.prog 40 = some 1 := by kernel_rfl
theorem aggLLj : agg? Tryz.prog 40 = some false := by kernel_rfl
/-- The tables of the first n terms, in an outer list's places. -/
structure TabsAt (lo hi : Nat) (w : World) (ts : List (Nat × Nat)) (m n : Nat) (V : Nat → Value) : Prop where
  at_ : ∀ j, j < n → SlAt w (V j) m ((mapN (tbl (pT ts j)) m).flatMap encS)
  lo_ : ∀ j, j < n → ∀ g, (V j).ownBlock = some g → lo ≤ g ∧ g < hi
theorem TabsAt.stp {lo hi : Nat} {w w' : World} {ts : List (Nat × Nat)} {m n : Nat} {V : Nat → Value} {ex : List Nat} (h : TabsAt lo hi w ts m n V) (hs : Stp ex w w') (he : ∀ b ∈ ex, b < lo ∨ hi ≤ b) : TabsAt lo hi w' ts m n V :=
  ⟨fun j hj => (h.at_ j hj).stp hs fun g hg hm => by
    have h1 := h.lo_ j hj g hg
    have h2 := he g hm
    omega, h.lo_⟩
theorem setV (f : Nat → Value) {i n : Nat} (x : Value) (h : i < n) : lset (mapN f n) i [x] = mapN (fun j => if j = i then x else f j) n := by
  have e : lset (mapN f n) i [x] = (mapN f n).set i x := by
    unfold lset
    rw [List.set_eq_take_append_cons_drop, if_pos (by rw [mapN_len]; exact h)]
    simp
  rw [e]
  refine List.ext_getElem (by simp [mapN]) fun j h1 h2 => ?_
  rw [List.getElem_set]
  simp only [mapN, List.getElem_map, List.getElem_range]
  by_cases e : i = j
  · rw [if_pos e, if_pos e.symm]
  · rw [if_neg e, if_neg fun h => e h.symm]
theorem mapN_at {α : Type} (f : Nat → α) {n i : Nat} (h : i < n) : (mapN f n)[i]? = some (f i) := by simp [mapN, List.getElem?_range h]
/-- A table that is filled up to d. -/
def tbA (p d e : Nat) : Nat := if e < d then tbl p e else 0
theorem tbA_set (p d m : Nat) : (mapN (tbA p d) m).set d (tbl p d) = mapN (tbA p (d + 1)) m := filG_set (tbl p) 0 d m
theorem ld_Lm {X : Ctx} {u : World} {v : Value} {f : Nat → Nat} {m i : Nat} {ow : List Nat} {K : Value → Prop} (hP : X.P = Tryz.prog) (hk : Kn X u) (h : SlAt u v m ((mapN f m).flatMap encS)) (hi : i < m) (how : ∀ b, v.ownBlock = some b → b ∉ ow)
    (hK : K (S (f i))) : Ask (rIad X.P 40 v (J i)) fun p => Ask (rLoad X u ow 31 p) K := by
  refine a_iadN hP tyL h hi ?_
  refine a_load_agg (cs := encS (f i)) hk h (by rw [hP]; exact aggL) (by rw [hP]; exact szL) how (by simp [encS]) (flat_at encS_len (mapN f m) i _ (mapN_at f hi)) hK
theorem made_Lj (m : Nat) : (madeCells (Value.agg #[U 0, U 0, U 0, U 0]).cells (m * 4)).toList = (List.replicate m 0).flatMap encS := made_enc (α := Nat) (enc := encS) (a := 0) (s := 4) (by kernel_rfl) rfl (by decide) m
set_option maxHeartbeats 4000000 in
theorem keepsStr : Keeps1 Tryz.prog GT 137 cStr := by
  refine keepsW (T := Tstr) (A := ann137) hMix keepTstr hGT (calls_of (by kernel_rfl)) (callsW_of (by kernel_rfl)) fun args ⟨a, ts, _⟩ w0 hrd hpre hg => ?_
  obtain ⟨_, _, rfl, rfl, x, _, rfl, hl, rfl⟩ := hrd
  obtain ⟨ha1, ha8, hn⟩ := hpre
  dsimp only at ha1 ha8 hn hl
  replace hl : LsT w0 x ts := hl
  have hpos : 0 < w0.heap.size := ‹GT w0›.1
  refine ⟨[.x (.v 0), .x (.v 1)], [], [], 3, env0 [J a, x] w0, fun b => b, 0, rfl, rfl, fun X hX => mem_none hX rfl, fun X hP hS hw hX hR => ?_⟩
  subst hw; try dsimp only at hR
  rw [vc137 X]
  rw [ask_zero4]; intro b0 hb0 b1 hb1
  rw [ask_zero4]; intro b2 hb2
  rw [ask_lssN, decide_eq_false (by omega)]
  refine a_G_on condsV1 ?_
  rw [ask_gtrN, decide_eq_false (by omega), ask_pickF]
  refine a_if (fun h => by cases h) fun _ => ?_
  refine a_len hP tyT hl.1 ?_
  rw [ask_gtrN, decide_eq_false (by omega)]
  refine a_if (fun h => by cases h) fun _ => ?_
  refine a_len hP tyT hl.1 ?_
  obtain ⟨n, en⟩ : ∃ n, n = ts.length := ⟨_, rfl⟩
  rw [← en, ask_eqlN]
  refine a_ifD (fun h0 => ?_) fun hne => ?_
  · rw [ask_aggS]
    refine hR _ _ _ _ fun _ _ => ⟨0, 0, ?_⟩
    rw [sumT, ← en, h0]; rfl
  rw [← en] at hn
  have x0 : ∀ {u : World}, Kn X u → SlAt u x ts.length (ts.flatMap encT) := fun hk => hl.1.stp0 (hk.stp0 hX)
  refine a_box hX.n rfl fun r u12 w12 h12 k12 s12 su12 hr12 hc12 hz12 => ?_
  have m12 : MtAt w12 r := ⟨_, 0, 0, hc12⟩
  have y12 := h12.size
  refine call_W hX hS (T := Tstr) (f := 147) rfl (ts, ()) (fun w hw => ⟨⟨_, _, rfl, hl.stp0 (su12.trans0 hw.stp), rfl⟩, by show ts.length ≤ 1000; omega⟩) fun vE u13 w13 h13 k13 s13 su13 oE => ?_
  dsimp only at oE
  rw [← en] at oE
  have low : ∀ {b : Nat}, b ∈ [b0, b1, b2] → b < u12.heap.size := fun hb => h12.low (by simpa [kb137_0] using hb)
  have l0 : b0 < u12.heap.size := low (by simp)
  have l1 : b1 < u12.heap.size := low (by simp)
  have l2 : b2 < u12.heap.size := low (by simp)
  have y13 := h13.size
  have y13' := s13.size
  refine a_len hP tyT hl.1 ?_
  rw [← en]
  refine a_make (n := n) hX hP tyLLj (by simp [argsFn]) (by simp [argsFn]) (by omega) (by unfold maxLen; omega) fun gT u15 w15 h15 k15 s15 su15 oT => ?_
  rw [show (madeCells (Value.slice none 0 0).cells (n * 1)).toList = mapN (fun _ => .slice none 0 0) n by rw [made_one rfl n]; exact List.ext_getElem (by simp [mapN]) fun j h1 h2 => by simp [mapN]] at oT
  have gT' : u15.heap.size ≤ gT ∧ gT < w15.heap.size := oT.lt gT rfl
  have y15 := h15.size
  have m15 : MtAt w15 r := (m12.stp su13 List.not_mem_nil).stp su15 List.not_mem_nil
  have oE15 := own_stp0 oE su15
  refine a_len hP tyT hl.1 ?_
  rw [← en]
  obtain ⟨m, em⟩ : ∃ m, m = 2 ^ a := ⟨_, rfl⟩
  have hm2 : 2 ≤ m := by rw [em]; exact Nat.le_trans (show 2 ≤ 2 ^ 1 by decide) (Nat.pow_le_pow_right (by decide) ha1)
  have hm256 : m ≤ 256 := by rw [em]; exact Nat.le_trans (Nat.pow_le_pow_right (by decide) ha8) (by decide)
  have offE : ∀ {ex : List Nat}, (∀ b ∈ ex, b < u13.heap.size ∨ w13.heap.size ≤ b) → ∀ g, vE.ownBlock = some g → g ∉ ex := fun h g hg hm => by
    have h1 := oE.lt g hg
    have h2 := h g hm
    omega
  -- the tables
  refine ⟨fun q w => ∃ i V, q = [J i, S 0, J 0, J 0, S 0] ∧ i ≤ n ∧ Kn X w ∧ w15.heap.size ≤ w.heap.size ∧ MtAt w r ∧ SlAt w vE n ((mapN (kT ts) n).flatMap encB) ∧ w.ownsRow u15.heap.size 40 1 (.slice (some ⟨gT, 0, none⟩) n n) n (mapN V n) ∧ TabsAt w15.heap.size w.heap.size w ts m i V, fun q _ => match q with | i :: _ => n - intNat i | _ => 0, fun w hw => ⟨0, _, rfl, Nat.zero_le _, hw.kn, hw.size, m15.stp hw.stp List.not_mem_nil, (own_slAt oE15).stp0 hw.stp, own_stp0 oT hw.stp, ⟨fun j hj => by omega, fun j hj => by omega⟩⟩, ?_⟩
  rintro _ _ _ _ _ w22 ⟨i, V, he, hi, hk22, hz22, m22, sE, oT22, hV⟩
  simp only [List.cons.injEq, and_true] at he
  obtain ⟨rfl, rfl, rfl, rfl, rfl⟩ := he
  rw [ask_lssN]
  refine a_ifD (fun hlt => ?_) fun hge => ?_
  · have hlt' : i < ts.length := by omega
    have okt := hl.2 _ (List.getElem_mem hlt')
    have epT : ts[i].2 = pT ts i := by rw [pT, getD_ltj _ hlt']
    refine a_iadN hP tyT (x0 hk22) (by omega) ?_
    refine a_load_agg (cs := encT ts[i]) hk22 (x0 hk22) (by rw [hP]; exact aggT) (by rw [hP]; exact szT) (fun _ _ => List.not_mem_nil) (by simp [encT, encS]) (flat_at encT_len ts i _ (List.getElem?_eq_getElem hlt')) ?_
    intro b3 hb3
    refine a_agg rfl (one_encTj _) ?_
    iterate 8 refine a_sel1 rfl ?_
    rw [foldSj, epT]
    have hp256 : pT ts i < W256 := epT ▸ okt.2
    rw [ask_shlN (by omega) (by rw [← em]; omega), Nat.one_mul, ← em]
    refine a_make (n := m) hX hP tyL (by simp [argsFn]) (by simp [argsFn]) (by omega) (by unfold maxLen; omega) fun gP u36 w36 h36 k36 s36 su36 oP => ?_
    rw [made_Lj, show (List.replicate m 0) = mapN (tbA (pT ts i) 0) m by rw [filG_zero (tbl (pT ts i)) 0 m]; rfl] at oP
    have gP' : u36.heap.size ≤ gP ∧ gP < w36.heap.size := oP.lt gP rfl
    have y36 := h36.size
    have z36 := su36.size
    have nkb : ∀ {q : Nat} {a b c d e f g h : Value}, u12.heap.size ≤ q → q ≠ b3 → q ∉ (kb137_1 b0 b1 b2 b3 (S 0) (J 0) (J 0) (S 0) a b c d e f g h).map (·.b) := fun hq hq3 hm => by
      simp only [kb137_1, List.map_cons, List.map_nil, List.mem_cons, List.not_mem_nil, or_false] at hm
      omega
    have b3lt : b3 < u36.heap.size := h36.low (by simp [kb137_1])
    refine a_iadN (i := 1) hP tyL (own_slAt oP) (by omega) ?_
    refine a_store (vs := encS (pT ts i)) hX hP szL rfl rfl rfl rfl (one_encS _) oP h36.sz0 (by omega) (by decide) (fun _ _ => List.not_mem_nil) (fun w4 hw4 g' hg' => by
      simp [Value.ownBlock] at hg'; subst hg'
      exact nkb (by omega) (by omega)) fun _ w37 w38 h38 k38 s38 su38 oP38 => ?_
    have e1 : (mapN (tbA (pT ts i) 0) m).set 1 (pT ts i) = mapN (tbA (pT ts i) 2) m := by
      refine List.ext_getElem (by simp [mapN]) fun j h1 h2 => ?_
      rw [List.getElem_set]
      simp only [mapN, List.getElem_map, List.getElem_range, tbA]
      by_cases e : 1 = j
      · subst e; rw [if_pos rfl, if_pos (by omega)]; rfl
      · rw [if_neg e]
        by_cases e0 : j = 0
        · subst e0; rfl
        · rw [if_neg (by omega), if_neg (by omega)]
    rw [show 1 * 4 = 1 * 4 from rfl, lset_flat encS_len _ _ _ (by rw [mapN_len]; omega), e1] at oP38
    have eP : (Value.slice (some ⟨gP, 0, none⟩) m m).ownBlock.toList = [gP] := rfl
    rw [eP, List.nil_append] at su38
    have z38 := su38.size
    have t38 : Stp ([b3] ++ [gP]) w22 w38 := su36.trans su38
    have t38' : Stp [] w22 w38 := t38.drop (by simp; omega)
    have m38 := m22.stp t38' List.not_mem_nil
    have lr := m12.lt
    refine ⟨fun q w => ∃ d, q = [J d] ∧ 2 ≤ d ∧ d ≤ m ∧ Kn X w ∧ w38.heap.size ≤ w.heap.size ∧ MtAt w r ∧ SlAt w vE n ((mapN (kT ts) n).flatMap encB) ∧ w.ownsRow u15.heap.size 40 1 (.slice (some ⟨gT, 0, none⟩) n n) n (mapN V n) ∧ TabsAt w15.heap.size w22.heap.size w ts m i V ∧ w.ownsRow u36.heap.size 31 4 (.slice (some ⟨gP, 0, none⟩) m m) m ((mapN (tbA (pT ts i) d) m).flatMap encS), fun q _ => match q with | d :: _ => m - intNat d | _ => 0, fun w hw => ⟨2, rfl, Nat.le_refl _, hm2, hw.kn, hw.size, m38.stp hw.stp List.not_mem_nil, (sE.stp0 t38').stp0 hw.stp, own_stp0 (own_stp0 oT22 t38') hw.stp, (hV.stp t38' (by simp)).stp hw.stp (by simp), own_stp0 oP38 hw.stp⟩, ?_⟩
    rintro _ w40 ⟨d, he, hd2, hdm, hk40, hz40, m40, sE40, oT40, hV40, oP40⟩
    simp only [List.cons.injEq, and_true] at he
    subst he
    refine a_len hP tyL (own_slAt oP40) ?_
    rw [ask_lssN]
    refine a_ifD (fun hld => ?_) fun hgd => ?_
    · rw [ask_subN (by omega) (by omega)]
      refine ld_Lm (i := d - 1) hP hk40 (own_slAt oP40) (by omega) (fun _ _ => List.not_mem_nil) ?_
      rw [tbA, if_pos (by omega)]
      refine call_M hX.n hS (T := Tstr) (f := 148) rfl (r, tbl (pT ts i) (d - 1), pT ts i) (fun w hw => ⟨⟨rfl, tbl_lt hp256 _, hp256⟩, by show 0 < r; omega, m40.stp hw.stp List.not_mem_nil⟩) [r] (fun q hq => by simp [hq]) (fun q hq => by
        simp only [List.mem_singleton] at hq
        subst hq
        exact ⟨(hX q).2 (by omega), nkb (by omega) (by omega)⟩) fun v w45 w46 h46 k46 s46 su46 hp => ?_
      obtain ⟨rfl, m46⟩ := hp
      dsimp only at m46 ⊢
      rw [tbl_step _ hd2]
      have su46 : Stp [r] w40 w46 := su46
      have z46 := su46.size
      have oP46 := own_stp oP40 su46 (fun g hg hm => by
        have := (oP40.lt g hg).1
        simp at hm; omega)
      have oT46 := own_stp oT40 su46 (fun g hg hm => by
        simp [Value.ownBlock] at hg
        simp at hm; omega)
      have sE46 := sE40.stp su46 (offE (by simp; omega))
      have hV46 := hV40.stp su46 (by simp; omega)
      refine a_iadN hP tyL (own_slAt oP46) hld ?_
      refine a_store (vs := encS (tbl (pT ts i) d)) hX hP szL rfl rfl rfl rfl (one_encS _) oP46 h36.sz0 (by omega) (by decide) (fun _ _ => List.not_mem_nil) (fun w4 hw4 g' hg' => by
        simp [Value.ownBlock] at hg'; subst hg'
        exact nkb (by omega) (by omega)) fun _ w47 w48 h48 k48 s48 su48 oP48 => ?_
      rw [lset_flat encS_len _ _ _ (by rw [mapN_len]; omega), tbA_set] at oP48
      rw [eP, List.nil_append] at su48
      have z48 := su48.size
      have oT48 := own_stp oT46 su48 (fun g hg hm => by
        simp [Value.ownBlock] at hg
        simp at hm; omega)
      have sE48 := sE46.stp su48 (offE (by simp; omega))
      have hV48 := hV46.stp su48 (by simp; omega)
      have m48 := m46.stp su48 (by simp; omega)
      rw [ask_succ (by omega)]
      intro w2 hw2
      exact ⟨⟨d + 1, rfl, by omega, hld, hw2.kn, by have := hw2.size; omega, m48.stp hw2.stp List.not_mem_nil, sE48.stp0 hw2.stp, own_stp0 oT48 hw2.stp, hV48.stp hw2.stp (by simp), own_stp0 oP48 hw2.stp⟩, by simp [intNat]; omega⟩
    · obtain rfl : d = m := by omega
      rw [show mapN (tbA (pT ts i) d) d = mapN (tbl (pT ts i)) d from filG_full (tbl (pT ts i)) 0 d] at oP40
      refine a_iadN hP tyLLj (own_slAt oT40) hlt ?_
      refine a_store (vs := [.slice (some ⟨gP, 0, none⟩) d d]) hX hP szLLj rfl rfl rfl rfl rfl oT40 h15.sz0 (by omega) (by decide) (fun _ _ => List.not_mem_nil) (fun w4 hw4 g' hg' => by
        simp [Value.ownBlock] at hg'; subst hg'
        exact nkb (by omega) (by omega)) fun _ w43 w44 h44 k44 s44 su44 oT44 => ?_
      rw [Nat.mul_one, setV V _ hlt] at oT44
      have eT : (Value.slice (some ⟨gT, 0, none⟩) n n).ownBlock.toList = [gT] := rfl
      rw [eT, List.nil_append] at su44
      have z44 := su44.size
      have oP44 := own_stp oP40 su44 (fun g hg hm => by
        have := (oP40.lt g hg).1
        simp at hm; omega)
      have sE44 := sE40.stp su44 (offE (by simp; omega))
      have hV44 := hV40.stp su44 (by simp; omega)
      have m44 := m40.stp su44 (by simp; omega)
      rw [ask_succ (by omega)]
      intro w2 hw2
      have z2 := hw2.size
      refine ⟨⟨i + 1, fun j => if j = i then .slice (some ⟨gP, 0, none⟩) d d else V j, rfl, hlt, hw2.kn, by omega, m44.stp hw2.stp List.not_mem_nil, sE44.stp0 hw2.stp, own_stp0 oT44 hw2.stp, ⟨fun j hj => ?_, fun j hj g hg => ?_⟩⟩, by simp [intNat]; omega⟩
      · by_cases e : j = i
        · subst e
          rw [if_pos rfl]
          exact (own_slAt oP44).stp0 hw2.stp
        · rw [if_neg e]
          exact (hV44.at_ j (by omega)).stp0 hw2.stp
      · by_cases e : j = i
        · subst e
          rw [if_pos rfl] at hg
          simp [Value.ownBlock] at hg
          omega
        · rw [if_neg e] at hg
          have := hV44.lo_ j (by omega) g hg
          omega
  -- digit by digit
  obtain rfl : i = n := by omega
  obtain ⟨g13, c13, eE⟩ : ∃ g c, vE = .slice (some ⟨g, 0, none⟩) i c := by
    rcases oE.2 with ⟨_, h⟩ | ⟨g, c, _, h, _⟩
    · exact absurd h hne
    · exact ⟨g, c, h⟩
  rw [ask_quoN (by omega) (by decide)]
  obtain ⟨t0, et0⟩ : ∃ t, t = 255 / a := ⟨_, rfl⟩
  have ht255 : t0 ≤ 255 := by rw [et0]; exact Nat.div_le_self _ _
  have htop : 256 ≤ a * (t0 + 1) := by
    rw [et0]
    have h1 := Nat.div_add_mod 255 a
    have h2 := Nat.mod_lt 255 (show 0 < a by omega)
    rw [Nat.mul_add]
    generalize a * (255 / a) = q at *
    omega
  rw [← et0]
  have gE' : u13.heap.size ≤ g13 ∧ g13 < w13.heap.size := oE.lt g13 (by rw [eE]; rfl)
  have step : ∀ {w w' : World} {ex : List Nat}, Stp ex w w' → (∀ b ∈ ex, b = r ∨ w22.heap.size ≤ b ∨ b = b2) → SlAt w vE i ((mapN (kT ts) i).flatMap encB) ∧ SlAt w (.slice (some ⟨gT, 0, none⟩) i i) i (mapN V i) ∧ TabsAt w15.heap.size w22.heap.size w ts m i V → SlAt w' vE i ((mapN (kT ts) i).flatMap encB) ∧ SlAt w' (.slice (some ⟨gT, 0, none⟩) i i) i (mapN V i) ∧ TabsAt w15.heap.size w22.heap.size w' ts m i V := fun hs he ⟨h1, h2, h3⟩ => by
    have lr := m12.lt
    exact ⟨h1.stp hs (offE fun b hb => by have := he b hb; omega), h2.stp hs (fun g hg hm => by
      simp [Value.ownBlock] at hg
      have := he g hm
      omega), h3.stp hs fun b hb => by have := he b hb; omega⟩
  refine ⟨fun q w => ∃ t : Nat, q = [.int .i64 ((t0 : Int) - t), S 0, J 0, J 0, S (baseS ts a (t0 + 1 - t)).val] ∧ t ≤ t0 + 1 ∧ Kn X w ∧ w22.heap.size ≤ w.heap.size ∧ MtAt w r ∧ (SlAt w vE i ((mapN (kT ts) i).flatMap encB) ∧ SlAt w (.slice (some ⟨gT, 0, none⟩) i i) i (mapN V i) ∧ TabsAt w15.heap.size w22.heap.size w ts m i V), fun q _ => match q with | .int _ z :: _ => (z + 1).toNat | _ => 0, fun w hw => ⟨0, by simp [base_top ts htop], Nat.zero_le _, hw.kn, hw.size, m22.stp hw.stp List.not_mem_nil, step hw.stp (by simp) ⟨sE, own_slAt oT22, hV⟩⟩, ?_⟩
  rintro _ _ _ _ _ w30 ⟨t, he, ht, hk30, hz30, m30, p30⟩
  simp only [List.cons.injEq, and_true] at he
  obtain ⟨rfl, rfl, rfl, rfl, rfl⟩ := he
  have lr := m12.lt
  have nk : ∀ {q : Nat}, u12.heap.size ≤ q → q ∉ [b0, b1, b2] := fun hq hm => by
    simp only [List.mem_cons, List.not_mem_nil, or_false] at hm
    omega
  have hb2' : b2 < r := by omega
  rw [ask_geq]
  refine a_ifD (fun hlt => ?_) fun hgt => ?_
  · obtain ⟨s, es⟩ : ∃ s, s = t0 - t := ⟨_, rfl⟩
    have e1 : t0 + 1 - t = s + 1 := by omega
    have ej : Value.int .i64 ((t0 : Int) - t) = J s := by congr 1; omega
    rw [e1, ej]
    refine ⟨fun q w => ∃ p, q = [J p, S (rF (2 ^ p) * baseS ts a (s + 1)).val] ∧ p ≤ a ∧ Kn X w ∧ w30.heap.size ≤ w.heap.size ∧ MtAt w r ∧ (SlAt w vE i ((mapN (kT ts) i).flatMap encB) ∧ SlAt w (.slice (some ⟨gT, 0, none⟩) i i) i (mapN V i) ∧ TabsAt w15.heap.size w22.heap.size w ts m i V), fun q _ => match q with | p :: _ => a - intNat p | _ => 0, fun w hw => ⟨0, by rw [Nat.pow_zero, rF_one]; congr 4; grind, Nat.zero_le _, hw.kn, hw.size, m30.stp hw.stp List.not_mem_nil, step hw.stp (by simp) p30⟩, ?_⟩
    rintro _ _ w34 ⟨p, he, hp, hk34, hz34, m34, p34⟩
    simp only [List.cons.injEq, and_true] at he
    obtain ⟨rfl, rfl⟩ := he
    rw [ask_lssN]
    refine a_ifD (fun hlp => ?_) fun hgp => ?_
    · refine call_M hX.n hS (T := Tstr) (f := 149) rfl (r, (rF (2 ^ p) * baseS ts a (s + 1)).val) (fun w hw => ⟨⟨rfl, val_lt _⟩, by show 0 < r; omega, m34.stp hw.stp List.not_mem_nil⟩) [r] (fun q hq => by simp [hq]) (fun q hq => by
        simp only [List.mem_singleton] at hq
        subst hq
        exact ⟨(hX q).2 (by omega), by simpa [kb137_4] using nk (by omega)⟩) fun v w35 w36 h36 k36 s36 su36 hq => ?_
      obtain ⟨rfl, m36⟩ := hq
      dsimp only at m36 ⊢
      rw [rF_val, dbl_step, ask_aggS, ask_succ (by omega)]
      intro w2 hw2
      have z36 := su36.size
      refine ⟨⟨p + 1, rfl, hlp, hw2.kn, by have := hw2.size; omega, m36.stp hw2.stp (by simp; omega), step hw2.stp (by simp) (step su36 (by simp) p34)⟩, by simp [intNat]; omega⟩
    · obtain rfl : p = a := by omega
      refine a_len hP tyT hl.1 ?_
      rw [← en]
      refine ⟨fun q w => ∃ k, q = [J k, S (midS ts p s k).val] ∧ k ≤ i ∧ Kn X w ∧ w34.heap.size ≤ w.heap.size ∧ MtAt w r ∧ (SlAt w vE i ((mapN (kT ts) i).flatMap encB) ∧ SlAt w (.slice (some ⟨gT, 0, none⟩) i i) i (mapN V i) ∧ TabsAt w15.heap.size w22.heap.size w ts m i V), fun q _ => match q with | k :: _ => i - intNat k | _ => 0, fun w hw => ⟨0, by rw [mid_zero], Nat.zero_le _, hw.kn, hw.size, m34.stp hw.stp List.not_mem_nil, step hw.stp (by simp) p34⟩, ?_⟩
      rintro _ _ w39 ⟨k, he, hk, hk39, hz39, m39, p39⟩
      simp only [List.cons.injEq, and_true] at he
      obtain ⟨rfl, rfl⟩ := he
      rw [ask_lssN]
      refine a_ifD (fun hlk => ?_) fun hgk => ?_
      · refine a_iadN hP tyB32 p39.1 hlk ?_
        have eptr : Ptr vE (k * 32) = .pointer (some ⟨g13, 0 + k * 32, none⟩) := by rw [eE]; rfl
        rw [eptr]
        have hcell : ∀ {w : World}, SlAt w vE i ((mapN (kT ts) i).flatMap encB) → ∀ j, j < 32 → w.cell? ⟨g13, 0 + k * 32 + j, none⟩ = some (B (bt (kT ts k) j)) := fun h j hj => by
          rw [eE] at h
          rcases h with ⟨h, _⟩ | ⟨b, o, c, h, _, hc⟩
          · cases h
          · simp only [Value.slice.injEq, Option.some.injEq, Addr.mk.injEq, and_true, true_and] at h
            obtain ⟨⟨rfl, rfl⟩, _⟩ := h
            have h2 := flat_at encB_len (mapN (kT ts) i) k _ (mapN_at _ hlk) j (B (bt (kT ts k) j)) (by rw [encB_range]; simp [List.getElem?_range hj])
            rw [Nat.zero_add] at *
            have := hc _ _ h2
            rwa [Nat.zero_add] at this
        refine call_W hX hS (T := Tstr) (f := 150) rfl (kT ts k, p, s) (fun w hw => ⟨⟨g13, 0 + k * 32, rfl, Nat.lt_trans (kT_lt _ _) lN_lt, hcell (step hw.stp (by simp) p39).1⟩, ha8, by show s ≤ 256; omega⟩) fun v w41 w42 h42 k42 s42 su42 hv => ?_
        dsimp only at hv
        subst hv
        have p42 := step su42 (by simp) p39
        have z42 := su42.size
        have m42 := m39.stp su42 List.not_mem_nil
        have hdl : dig (kT ts k) p s < m := by rw [em]; exact Nat.mod_lt _ (Nat.pow_pos (by decide))
        have hst := mid_step ts p s (show k < ts.length by omega)
        rw [ask_gtrN]
        refine a_ifD (fun hd => ?_) fun hd => ?_
        · refine a_iadN hP tyLLj p42.2.1 hlk ?_
          refine a_load_one (c := V k) k42 p42.2.1 (by rw [hP]; exact aggLLj) (fun _ _ => List.not_mem_nil) (by rw [Nat.mul_one, mapN_at _ hlk]) ?_
          refine ld_Lm hP k42 (p42.2.2.at_ k hlk) hdl (fun _ _ => List.not_mem_nil) ?_
          have hp256 : pT ts k < W256 := by
            have h3 := hl.2 _ (List.getElem_mem (show k < ts.length by omega))
            rw [pT, getD_ltj _ (by omega)]
            exact h3.2
          refine call_M hX.n hS (T := Tstr) (f := 148) rfl (r, (midS ts p s k).val, tbl (pT ts k) (dig (kT ts k) p s)) (fun w hw => ⟨⟨rfl, val_lt _, tbl_lt hp256 _⟩, by show 0 < r; omega, m42.stp hw.stp List.not_mem_nil⟩) [r] (fun q hq => by simp [hq]) (fun q hq => by
            simp only [List.mem_singleton] at hq
            subst hq
            exact ⟨(hX q).2 (by omega), by simpa [kb137_5] using nk (by omega)⟩) fun v w47 w48 h48 k48 s48 su48 hq => ?_
          obtain ⟨rfl, m48⟩ := hq
          dsimp only at m48 ⊢
          rw [rF_val, rF_tbl, ← hst, ask_aggS, ask_succ (by omega)]
          intro w2 hw2
          have z48 := su48.size
          exact ⟨⟨k + 1, rfl, hlk, hw2.kn, by have := hw2.size; omega, m48.stp hw2.stp (by simp; omega), step hw2.stp (by simp) (step su48 (by simp) p42)⟩, by simp [intNat]; omega⟩
        · have hd0 : dig (kT ts k) p s = 0 := by omega
          rw [hd0, rF_zero] at hst
          have hst2 : midS ts p s (k + 1) = midS ts p s k := by rw [hst]; grind
          rw [ask_succ (by omega)]
          intro w2 hw2
          exact ⟨⟨k + 1, by rw [hst2], hlk, hw2.kn, by have := hw2.size; omega, m42.stp hw2.stp List.not_mem_nil, step hw2.stp (by simp) p42⟩, by simp [intNat]; omega⟩
      · obtain rfl : k = i := by omega
        rw [← ej, ask_sub, wrap_i64 (by omega) (by omega)]
        intro w2 hw2
        refine ⟨⟨t + 1, ?_, by omega, hw2.kn, by have := hw2.size; omega, m39.stp hw2.stp List.not_mem_nil, step hw2.stp (by simp) p39⟩, by simp; omega⟩
        have e2 : t0 + 1 - (t + 1) = s := by omega
        rw [e2, en, mid_full]
        simp only [List.cons.injEq, Value.int.injEq, true_and, and_true]
        omega
  · obtain rfl : t = t0 + 1 := by omega
    refine call_W hX hS (T := Tstr) (f := 151) rfl r (fun w hw => ⟨rfl, m30.stp hw.stp List.not_mem_nil⟩) fun v w31 w32 h32 k32 s32 su32 hv => ?_
    obtain ⟨cx, cy, rfl⟩ := hv
    rw [ask_aggS]
    refine a_agg (cs := [.int .i64 cx, .int .i64 cy]) rfl rfl (a_sel1 rfl (a_sel1 rfl ?_))
    refine hR _ _ _ _ fun _ _ => ⟨cx, cy, ?_⟩
    rw [Nat.sub_self, base_zero]
#print axioms keepsStr
end Go.Vc
