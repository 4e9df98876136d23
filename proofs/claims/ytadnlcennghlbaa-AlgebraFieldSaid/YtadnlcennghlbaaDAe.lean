/-
  Solve at one equation over Seven; alive.
-/
import Derived.Test.YtadnlcennghlbaaDAc
import Derived.Test.YtadnlcennghlbaaVcMut
import Derived.Tactics
import Derived.Tactics2
import Derived.Defers
import Derived.Recover
namespace Go.Vc
open Go Go.Proofs Go.RowKit
section
variable {X : Ctx} {P : Program} {u : World} {ow : List Nat} {bl : List KB} {KW : Value → World → Prop}
/-- make of an empty list with room. -/
theorem a_makeRoom {t e ty size bytes c : Nat} {z : Value} {la lc : Operand} {l : List (Nat × Value)} (hX : Std X) (hP : X.P = P) (hT : ElTy P t e size bytes z) (e1 : argsFn l la = J 0) (e2 : argsFn l lc = J c) (hbytes : bytes * c ≤ 281474976710656) (h63 : c ≤ maxLen)
    (hK : ∀ v w w', KnownV X u ow bl w → Kn X w' → Stp [] w w' → Stp ow u w' → w'.ownsRow w.heap.size e size v 0 [] → KW v w') :
    AskO X u ow bl false (.makeSlice t la lc) ty l KW := by
  subst hP
  obtain ⟨ie, hie, rfl, rfl, hz⟩ := hT.info
  have key : ∀ w, ∃ w', (execOp (argsFn l) ⟨none, .makeSlice t la lc, ty, "", #[], none⟩).run X.P w = .ok (.value (.slice (some ⟨w.heap.size, 0, none⟩) 0 c)) w' ∧
      w'.ownsRow w.heap.size e ie.size (.slice (some ⟨w.heap.size, 0, none⟩) 0 c) 0 [] ∧ w.grownBy w' none := fun w => by
    have hb' : (ie.bytes : Int) * (c : Int) ≤ 281474976710656 := by
      have h : ((ie.bytes * c : Nat) : Int) ≤ 281474976710656 := by omega
      rwa [Int.natCast_mul] at h
    have h63' : (c : Int) ≤ 9223372036854775807 := by
      have h := h63
      simp [maxLen] at h
      omega
    have hr := run_make (P := X.P) w t e ie z hT.sl hie hz .i64 .i64 (0 : Int) (c : Int) (by omega) (by omega) hb' h63'
    simp only [Int.toNat_natCast] at hr
    refine ⟨w.alloc (.cells (madeCells z.cells (c * ie.size)) e), ?_, ⟨by simp, .inr ⟨w.heap.size, c, madeCells z.cells (c * ie.size), rfl, Nat.le_refl _, heap_alloc_new w _, Nat.zero_le _, h63, size_madeCells _ _, by simp⟩⟩, World.grownBy_alloc w _ none⟩
    simp only [execOp, e1, e2, Sem.run_bind]
    have hr' : (Instr.makeSlice t (J 0) (J c)).run X.P w = .ok (.slice (some ⟨w.heap.size, 0, none⟩) 0 c) (w.alloc (.cells (madeCells z.cells (c * ie.size)) e)) := hr
    rw [hr']; rfl
  refine askE_intro (fun w hw => ?_) fun v' w' ⟨w, hw, hr⟩ => ?_
  · obtain ⟨w', hr, ho, hg⟩ := key w
    exact ⟨_, w', hr, hg.os, hg.tape, hg.output, hg.size, fun b hb _ => hg.block b hb (by simp)⟩
  · obtain ⟨w1, hr1, ho, hg⟩ := key w
    have hr : (execOp (argsFn l) ⟨none, .makeSlice t la lc, ty, "", #[], none⟩).run X.P w = .ok (.value v') w' := hr
    rw [hr1] at hr
    cases hr
    have hs : Stp [] w w' := ⟨hg.size, fun b hb _ => hg.block b hb (by simp)⟩
    refine hK _ w w' hw ⟨fun _ _ _ => rfl, Nat.le_refl _, fun b hb => ?_, Nat.le_trans hw.sz0 hs.size, hg.os.trans hw.os, hg.tape.trans hw.tape, hg.output.trans hw.output, fun _ h => by cases h⟩ hs (by simpa using hw.stp.trans hs) ho
    have hlt : b < w.heap.size := by
      rcases Nat.lt_or_ge b w.heap.size with h | h
      · exact h
      · exact absurd ((hX b).2 (Nat.le_trans hw.sz0 h)) hb
    rw [hs.past b hlt (by simp)]; exact hw.keep b hb
theorem a_GI_on {g : List (Value × Bool)} {x : Value} {m : String} {args : List Value} {K : Value → Prop} (h : condsV g) (hA : AskI X x m args K) : AskGI X g x m args K := ⟨fun _ => hA.1, fun v hv => hA.2 v (hv.1 h)⟩
theorem a_GI_off {g : List (Value × Bool)} {x : Value} {m : String} {args : List Value} {K : Value → Prop} (h : ¬ condsV g) (hK : ∀ v, K v) : AskGI X g x m args K := ⟨fun hc => absurd hc h, fun v _ => hK v.1⟩
end
theorem splice_same {cs : Array Value} {o : Nat} {v : Value} (h : cs[o]? = some v) : splice cs o [v] = cs := by
  have hlt : o < cs.size := (Array.getElem?_eq_some_iff.1 h).1
  apply Array.ext_getElem?
  intro i
  rw [splice, ← Array.getElem?_toList, ← Array.getElem?_toList]
  simp only [List.length_singleton]
  rcases Nat.lt_trichotomy i o with hi | hi | hi
  · rw [List.append_assoc, List.getElem?_append_left (by simp; omega), List.getElem?_take_of_lt hi]
  · subst hi
    rw [List.append_assoc, List.getElem?_append_right (by simp; omega)]
    simp only [List.length_take, Array.length_toList]
    rw [show i - min i cs.size = 0 by omega]
    simpa using h.symm
  · rw [List.getElem?_append_right (by simp; omega), List.getElem?_drop]
    simp only [List.length_append, List.length_take, Array.length_toList, List.length_singleton]
    congr 1; omega
/-! ### Eval over Seven -/
def cL7 : Cod (List Int) := cL encS7 (fun _ => True) 1 encS7_len (fun _ _ _ _ h => encS7_inj h)
def Ls7 (w : World) (v : Value) (l : List Int) : Prop := Ls encS7 (fun _ => True) w v l
def cS7 : Cod Int := ⟨fun _ v p => v = S7 p, fun _ _ _ _ h k => S7_inj (h.symm.trans k)⟩
section
variable {X : Ctx} {u : World} {v : Value} {l : List Int} {i : Nat} {ow : List Nat} {K : Value → Prop}
theorem ld_S7 (hP : X.P = Try.prog) (hk : Kn X u) (h : SlAt u v l.length (l.flatMap encS7)) (hi : i < l.length) (how : ∀ b, v.ownBlock = some b → b ∉ ow)
    (hK : K (S7 (l.getD i 0))) : Ask (rIad X.P 24 v (J i)) fun p => Ask (rLoad X u ow 27 p) K := by
  refine a_iadN hP ty7 h hi ?_
  refine a_load_agg (cs := encS7 l[i]) hk h (by rw [hP]; exact agg7) (by rw [hP]; exact sz7) how (by simp [encS7]) (flat_at encS7_len l i _ (List.getElem?_eq_getElem hi)) ?_
  rw [getD_lt _ hi] at hK
  exact hK
theorem a_S7 {p : Int} (hK : K (S7 p)) : Ask (rAgg 1 (S7 p)) K := a_agg (cs := encS7 p) rfl (one_encS7 p) hK
end
def TA7a : Table := (((((TA7.add 47 c7Add).add 52 c7Sub).add 50 c7Mul).add 51 c7One).add 49 c7IsZ).add 48 c7Inv
theorem keepTA7a : AllKeep Try.prog GA TA7a := (((((keepTA7.add keeps7Add).add keeps7Sub).add keeps7Mul).add keeps7One).add keeps7IsZ).add keeps7Inv
section
variable {X : Ctx} {K : Value → Prop} (hP : X.P = Try.prog) (hS : X.S = TA7a.spec)
include hP hS
theorem i_7Mul (a b : Int) (hK : K (S7 (sR.mul a b))) : AskI X (.iface 27 (S7 a)) "Mul" [S7 b] K := call_I hP hS (T := TA7a) (f := 50) rfl (a, b) (meth7Mul a b) trivial hK
theorem i_7Add (a b : Int) (hK : K (S7 (sR.add a b))) : AskI X (.iface 27 (S7 a)) "Add" [S7 b] K := call_I hP hS (T := TA7a) (f := 47) rfl (a, b) (meth7Add a b) trivial hK
theorem i_7Sub (a b : Int) (hK : K (S7 (sR.sub a b))) : AskI X (.iface 27 (S7 a)) "Sub" [S7 b] K := call_I hP hS (T := TA7a) (f := 52) rfl (a, b) (meth7Sub a b) trivial hK
theorem i_7One (a : Int) (hK : K (S7 1)) : AskI X (.iface 27 (S7 a)) "One" [] K := call_I hP hS (T := TA7a) (f := 51) rfl a (meth7One a) trivial hK
theorem i_7IsZ (a : Int) (hK : K (.bool (decide (a % 7 = 0)))) : AskI X (.iface 27 (S7 a)) "IsZero" [] K := call_I hP hS (T := TA7a) (f := 49) rfl a (meth7IsZ a) trivial hK
theorem i_7Inv (a : Int) (hK : K (S7 (sInv a))) : AskI X (.iface 27 (S7 a)) "Invert" [] K := call_I hP hS (T := TA7a) (f := 48) rfl a (meth7Inv a) trivial hK
end
theorem a_mk7 {K : Value → Prop} {P : Program} {a ty : Nat} {x : Value} (hP : P = Try.prog) (hK : K (.iface 27 x)) : Ask (rGen P (.makeInterface 27 (.tmp a)) ty [(a, x)]) K := by
  subst hP; rw [ask_mkI (makeI7 _)]; exact hK
def ann23 : Ann := ⟨[(3, ([6], [2]))], [], 70, [], [], none, [], []⟩
def kb23_0 (b0 b1 b2 : Nat) (x1 : Value) : List KB := [⟨b0, true, 27, #[x1]⟩, ⟨b1, true, 27, #[(J 0)]⟩, ⟨b2, true, 27, #[(J 0)]⟩]
theorem vc23 (X : Ctx) (β : Nat → Nat) (x0 x1 : Value) : (run Try.prog ann23 23 [.x (.v 0), .l [.v 1]] [] [] 3).den X (env0 [x0, x1] X.w0) 3 β 0 (fun _ _ _ => False) = (
 AskNew X.w0 fun b0 =>
 AskNew X.w0 fun b1 =>
 AskNew X.w0 fun b2 =>
 Ask (rLen X.P 24 x0) fun x3 =>
 Ask (rBin X.P .sub 3 false true x3 (J 1)) fun x4 =>
 ∃ (I0 : List Value → World → Prop) (μ0 : List Value → World → Nat), (∀ w, KnownV X X.w0 [] (kb23_0 b0 b1 b2 x1) w → I0 [x4, (J 0)] w) ∧ ∀ x5 x6 w7, I0 [x5, x6] w7 →
 Ask (rBin X.P .geq 3 false true x5 (J 0)) fun x8 =>
 (∃ t, x8 = .bool t) ∧ (x8 = .bool true →
 Ask (rGen X.P (Op.makeInterface 27 (Operand.tmp 14)) 20 [(14, (.agg #[x6]))]) fun x9 =>
 AskI X x9 "Mul" [(.agg #[x1])] fun x10 =>
 Ask (rGen X.P (Op.makeInterface 27 (Operand.tmp 17)) 20 [(17, x10)]) fun x11 =>
 Ask (rIad X.P 24 x0 x5) fun x12 =>
 Ask (rLoad X w7 [] 27 x12) fun x13 =>
 AskI X x11 "Add" [x13] fun x14 =>
 Ask (rAgg 1 x14) fun x15 =>
 Ask (rSel (aggArr x15) 0 1 false) fun x16 =>
 Ask (rBin X.P .sub 3 false true x5 (J 1)) fun x17 =>
 Again X w7 [b2] [] fun w => I0 [x17, x16] w ∧ μ0 [x17, x16] w < μ0 [x5, x6] w7) ∧ (x8 = .bool false →
 Ask (rPlain x6) fun x9 =>
 Ret X w7 [b1] [] (.agg #[x9]))) := by kernel_rfl
def c7Ev : Contract := fnW (Cods.cons cL7 (Cods.cons cS7 Cods.nil)) (fun p _ => p.1.length ≤ 1000) (fun p _ v _ => v = S7 (sR.eval p.1 p.2.1))
theorem keeps7Ev : Keeps1 Try.prog GA 23 c7Ev := by
  refine keepsW (T := TA7a) (A := ann23) hMix keepTA7a hGA (calls_of (by kernel_rfl)) (callsW_of (by kernel_rfl)) fun args ⟨c, x, _⟩ w0 hrd hpre _ => ?_
  obtain ⟨v, _, rfl, hl, _, _, rfl, rfl, rfl⟩ := hrd
  replace hl : Ls7 w0 v c := hl
  dsimp only at hpre
  refine ⟨[.x (.v 0), .l [.v 1]], [], [], 3, env0 [v, .int .i64 x] w0, fun b => b, 0, rfl, rfl, fun X hX => mem_none hX rfl, fun X hP hS hw hX hR => ?_⟩
  subst hw; try dsimp only at hR
  rw [vc23 X]
  intro b0 hb0 b1 hb1 b2 hb2
  refine a_len hP ty7 hl.1 ?_
  rw [ask_subI (by omega)]
  refine ⟨fun q w => ∃ k : Nat, q = [.int .i64 ((c.length : Int) - 1 - k), .int .i64 (sR.ev c x k)] ∧ k ≤ c.length ∧ Kn X w, fun q _ => match q with | .int _ i :: _ => (i + 1).toNat | _ => 0, fun w hw => ⟨0, by simp [Rg.ev, sR], Nat.zero_le _, hw.kn⟩, ?_⟩
  rintro _ _ w ⟨k, he, hk, hkn⟩
  simp only [List.cons.injEq, and_true] at he
  obtain ⟨rfl, rfl⟩ := he
  rw [ask_geq]
  refine a_ifD (fun hlt => ?_) fun hge => ?_
  · refine a_mk7 hP ?_
    refine i_7Mul hP hS (sR.ev c x k) x ?_
    refine a_mk7 hP ?_
    have ej : Value.int .i64 ((c.length : Int) - 1 - k) = J (c.length - 1 - k) := by congr 1; omega
    rw [ej]
    refine ld_S7 hP hkn (hl.1.stp0 (hkn.stp0 hX)) (by omega) (fun _ _ => List.not_mem_nil) ?_
    refine i_7Add hP hS _ _ ?_
    refine a_S7 ?_
    refine a_sel1 rfl ?_
    rw [← ej, ask_subI (by omega)]
    intro w2 hw2
    refine ⟨⟨k + 1, ?_, by omega, hw2.kn⟩, by simp; omega⟩
    simp only [List.cons.injEq, Value.int.injEq, true_and, and_true]
    exact ⟨by omega, rfl⟩
  · obtain rfl : k = c.length := by omega
    refine a_plain rfl ?_
    exact hR _ _ _ _ fun _ _ => rfl
/-! ### clearColumn, at one equation -/
def ann25 : Ann := ⟨[(1, ([4], [])), (8, ([63], [])), (13, ([85], [0])), (18, ([107], []))], [], 70, [], [], none, [], []⟩
def kb25_0 (b0 : Nat) (x31 : Value) : List KB := [⟨b0, true, 27, #[x31]⟩]
def kb25_1 (b0 b1 : Nat) (x40 x54 : Value) : List KB := [⟨b0, true, 27, #[x40]⟩, ⟨b1, true, 27, #[x54]⟩]
theorem vc25 (X : Ctx) (β : Nat → Nat) (x0 x1 : Value) : (run Try.prog ann25 25 [.x (.v 0), .x (.v 1)] [] [] 3).den X (env0 [x0, x1] X.w0) 3 β 0 (fun _ _ _ => False) = (
 ∃ (I0 : List Value → World → Prop) (μ0 : List Value → World → Nat), (∀ w, KnownV X X.w0 [] [] w → I0 [x1] w) ∧ ∀ x3 w4, I0 [x3] w4 →
 Ask (rLen X.P 28 x0) fun x5 =>
 Ask (rBin X.P .lss 3 false false x3 x5) fun x6 =>
 AskG [(x6, true)] (rIad X.P 28 x0 x3) fun x7 =>
 AskG [(x6, true)] (rLoad X w4 [] 24 x7) fun x8 =>
 AskG [(x6, true)] (rIad X.P 24 x8 x1) fun x9 =>
 AskG [(x6, true)] (rLoad X w4 [] 27 x9) fun x10 =>
 AskG [(x6, true)] (rGen X.P (Op.makeInterface 27 (Operand.tmp 23)) 20 [(23, x10)]) fun x11 =>
 AskGI X [(x6, true)] x11 "IsZero" [] fun x12 =>
 Ask (rPick x6 x12 (.bool false)) fun x13 =>
 (∃ t, x13 = .bool t) ∧ (x13 = .bool true →
 Ask (rBin X.P .add 3 false true x3 (J 1)) fun x14 =>
 Again X w4 [] [] fun w => I0 [x14] w ∧ μ0 [x14] w < μ0 [x3] w4) ∧ (x13 = .bool false →
 Ask (rLen X.P 28 x0) fun x14 =>
 Ask (rBin X.P .eql 3 false false x3 x14) fun x15 =>
 (∃ t, x15 = .bool t) ∧ (x15 = .bool true →
 Ask (rGen X.P (Op.makeInterface 54 (Operand.tmp 33)) 20 [(33, (.agg #[]))]) fun _ =>
 False /- 1 -/) ∧ (x15 = .bool false →
 Ask (rIad X.P 28 x0 x3) fun x16 =>
 Ask (rLoad X w4 [] 24 x16) fun x17 =>
 Ask (rIad X.P 28 x0 x1) fun x18 =>
 Ask (rLoad X w4 [] 24 x18) fun x19 =>
 Ask (rIad X.P 28 x0 x1) fun x20 =>
 AskO X w4 [] [] true (Op.store 24 (Operand.tmp 47) (Operand.tmp 42)) 0 [(47, x20), (42, x17)] fun _ w21 =>
 Ask (rIad X.P 28 x0 x3) fun x22 =>
 AskO X w21 [] [] true (Op.store 24 (Operand.tmp 48) (Operand.tmp 46)) 0 [(48, x22), (46, x19)] fun _ w23 =>
 Ask (rIad X.P 28 x0 x1) fun x24 =>
 Ask (rLoad X w23 [] 24 x24) fun x25 =>
 Ask (rIad X.P 24 x25 x1) fun x26 =>
 Ask (rLoad X w23 [] 27 x26) fun x27 =>
 Ask (rGen X.P (Op.makeInterface 27 (Operand.tmp 55)) 20 [(55, x27)]) fun x28 =>
 AskI X x28 "Invert" [] fun x29 =>
 AskNew w23 fun b0 =>
 Ask (rAgg 1 x29) fun x30 =>
 Ask (rSel (aggArr x30) 0 1 false) fun x31 =>
 Ask (rIad X.P 28 x0 x1) fun x32 =>
 Ask (rLoad X w23 [b0] 24 x32) fun x33 =>
 Ask (rLen X.P 24 x33) fun x34 =>
 ∃ (I0 : List Value → World → Prop) (μ0 : List Value → World → Nat), (∀ w, KnownV X w23 [b0] (kb25_0 b0 x31) w → I0 [(J 0)] w) ∧ ∀ x35 w36, I0 [x35] w36 →
 Ask (rBin X.P .lss 3 false false x35 x34) fun x37 =>
 (∃ t, x37 = .bool t) ∧ (x37 = .bool true →
 Ask (rIad X.P 28 x0 x1) fun x38 =>
 Ask (rLoad X w36 [] 24 x38) fun x39 =>
 Ask (rIad X.P 28 x0 x1) fun x40 =>
 Ask (rLoad X w36 [] 24 x40) fun x41 =>
 Ask (rIad X.P 24 x41 x35) fun x42 =>
 Ask (rLoad X w36 [] 27 x42) fun x43 =>
 Ask (rGen X.P (Op.makeInterface 27 (Operand.tmp 77)) 20 [(77, x43)]) fun x44 =>
 AskI X x44 "Mul" [(.agg #[x31])] fun x45 =>
 Ask (rIad X.P 24 x39 x35) fun x46 =>
 AskO X w36 [] (kb25_0 b0 x31) true (Op.store 27 (Operand.tmp 81) (Operand.tmp 80)) 0 [(81, x46), (80, x45)] fun _ w47 =>
 Ask (rBin X.P .add 3 false true x35 (J 1)) fun x48 =>
 Again X w47 [] [] fun w => I0 [x48] w ∧ μ0 [x48] w < μ0 [x35] w36) ∧ (x37 = .bool false →
 Ask (rLen X.P 28 x0) fun x38 =>
 ∃ (I0 : List Value → World → Prop) (μ0 : List Value → World → Nat), (∀ w, KnownV X w36 [] (kb25_0 b0 x31) w → I0 [(J 0), x31] w) ∧ ∀ x39 x40 w41, I0 [x39, x40] w41 →
 Ask (rBin X.P .lss 3 false false x39 x38) fun x42 =>
 (∃ t, x42 = .bool t) ∧ (x42 = .bool true →
 Ask (rIad X.P 28 x0 x39) fun x43 =>
 Ask (rLoad X w41 [] 24 x43) fun x44 =>
 Ask (rBin X.P .eql 3 false false x39 x1) fun x45 =>
 AskG [(x45, false)] (rIad X.P 24 x44 x1) fun x46 =>
 AskG [(x45, false)] (rLoad X w41 [] 27 x46) fun x47 =>
 AskG [(x45, false)] (rGen X.P (Op.makeInterface 27 (Operand.tmp 97)) 20 [(97, x47)]) fun x48 =>
 AskGI X [(x45, false)] x48 "IsZero" [] fun x49 =>
 Ask (rPick x45 (.bool true) x49) fun x50 =>
 (∃ t, x50 = .bool t) ∧ (x50 = .bool true →
 Ask (rBin X.P .add 3 false true x39 (J 1)) fun x51 =>
 Again X w41 [] [] fun w => I0 [x51, x40] w ∧ μ0 [x51, x40] w < μ0 [x39, x40] w41) ∧ (x50 = .bool false →
 Ask (rIad X.P 24 x44 x1) fun x51 =>
 Ask (rLoad X w41 [] 27 x51) fun x52 =>
 AskNew w41 fun b1 =>
 Ask (rAgg 1 x52) fun x53 =>
 Ask (rSel (aggArr x53) 0 1 false) fun x54 =>
 Ask (rLen X.P 24 x44) fun x55 =>
 ∃ (I1 : List Value → World → Prop) (μ1 : List Value → World → Nat), (∀ w, KnownV X w41 [b1] (kb25_1 b0 b1 x40 x54) w → I1 [(J 0)] w) ∧ ∀ x56 w57, I1 [x56] w57 →
 Ask (rBin X.P .lss 3 false false x56 x55) fun x58 =>
 (∃ t, x58 = .bool t) ∧ (x58 = .bool true →
 Ask (rIad X.P 24 x44 x56) fun x59 =>
 Ask (rLoad X w57 [] 27 x59) fun x60 =>
 Ask (rGen X.P (Op.makeInterface 27 (Operand.tmp 115)) 20 [(115, x60)]) fun x61 =>
 Ask (rGen X.P (Op.makeInterface 27 (Operand.tmp 117)) 20 [(117, (.agg #[x54]))]) fun x62 =>
 Ask (rIad X.P 28 x0 x1) fun x63 =>
 Ask (rLoad X w57 [] 24 x63) fun x64 =>
 Ask (rIad X.P 24 x64 x56) fun x65 =>
 Ask (rLoad X w57 [] 27 x65) fun x66 =>
 AskI X x62 "Mul" [x66] fun x67 =>
 AskI X x61 "Sub" [x67] fun x68 =>
 Ask (rIad X.P 24 x44 x56) fun x69 =>
 AskO X w57 [] (kb25_1 b0 b1 x40 x54) true (Op.store 27 (Operand.tmp 128) (Operand.tmp 127)) 0 [(128, x69), (127, x68)] fun _ w70 =>
 Ask (rBin X.P .add 3 false true x56 (J 1)) fun x71 =>
 Again X w70 [] [] fun w => I1 [x71] w ∧ μ1 [x71] w < μ1 [x56] w57) ∧ (x58 = .bool false →
 Ask (rBin X.P .add 3 false true x39 (J 1)) fun x59 =>
 Again X w57 [] [] fun w => I0 [x59, x40] w ∧ μ0 [x59, x40] w < μ0 [x39, x40] w41))) ∧ (x42 = .bool false →
 Ret X w41 [] [] (.tuple #[])))))) := by kernel_rfl
theorem ty77 : ElTy Try.prog 28 24 1 24 (.slice none 0 0) := ⟨by kernel_rfl, by kernel_rfl⟩
theorem aggL7 : agg? Try.prog 24 = some false := by kernel_rfl
theorem szL7 : sz Try.prog 24 = some 1 := by kernel_rfl
abbrev Row (b n c : Nat) : Value := .slice (some ⟨b, 0, none⟩) n c
/-- One row of two elements, in a list of rows. -/
structure Clr where
  a : Nat
  ca : Nat
  xs : Array Value
  b : Nat
  cb : Nat
  ys : Array Value
def cClr : Cods Clr := ⟨fun w l q => l = [Row q.a 1 q.ca, J 0] ∧ w.heap[q.a]? = some (.cells q.xs 24 (0, 0)) ∧ q.xs[0]? = some (Row q.b 2 q.cb) ∧ w.heap[q.b]? = some (.cells q.ys 27 (0, 0)), fun w l p q ⟨h1, h2, h3, h4⟩ ⟨k1, k2, k3, k4⟩ => by
  rw [h1] at k1
  simp only [List.cons.injEq, Value.slice.injEq, Option.some.injEq, Addr.mk.injEq, and_true, true_and] at k1
  obtain ⟨e1, e2⟩ := k1
  obtain ⟨a, ca, xs, b, cb, ys⟩ := p
  obtain ⟨a', ca', xs', b', cb', ys'⟩ := q
  simp only at h1 h2 h3 h4 k2 k3 k4 e1 e2
  subst e1 e2
  rw [h2] at k2
  simp only [Option.some.injEq, Obj.cells.injEq, and_true] at k2
  subst k2
  rw [h3] at k3
  simp only [Option.some.injEq, Value.slice.injEq, Addr.mk.injEq, and_true, true_and] at k3
  obtain ⟨e3, e4⟩ := k3
  subst e3 e4
  rw [h4] at k4
  simp only [Option.some.injEq, Obj.cells.injEq, and_true] at k4
  subst k4
  rfl⟩
def clrOk (q : Clr) : Prop := (1 ≤ q.ca ∧ q.ca ≤ maxLen) ∧ (2 ≤ q.cb ∧ q.cb ≤ maxLen) ∧ q.ys[0]? = some (J 3) ∧ q.ys[1]? = some (J 5)
/-- The row when j of its elements have been divided. -/
def clrAt (ys : Array Value) : Nat → Array Value
  | 0 => ys
  | 1 => splice ys 0 [J 15]
  | _ => splice (splice ys 0 [J 15]) 1 [J 25]
theorem sp_get {cs : Array Value} {o : Nat} {v : Value} (h : o < cs.size) (i : Nat) : (splice cs o [v])[i]? = if i = o then some v else cs[i]? := by
  rw [splice, ← Array.getElem?_toList]
  simp only [List.length_singleton]
  rcases Nat.lt_trichotomy i o with hi | hi | hi
  · rw [List.append_assoc, List.getElem?_append_left (by simp; omega), List.getElem?_take_of_lt hi, if_neg (by omega), Array.getElem?_toList]
  · subst hi
    rw [List.append_assoc, List.getElem?_append_right (by simp; omega), if_pos rfl]
    simp only [List.length_take, Array.length_toList]
    rw [show i - min i cs.size = 0 by omega]
    rfl
  · rw [List.getElem?_append_right (by simp; omega), List.getElem?_drop, if_neg (by omega), ← Array.getElem?_toList]
    simp only [List.length_append, List.length_take, Array.length_toList, List.length_singleton]
    congr 1; omega
theorem sp_size {cs : Array Value} {o : Nat} {v : Value} (h : o < cs.size) : (splice cs o [v]).size = cs.size := splice_size (by simp; omega)
def cClear : Contract := fnM cClr (fun q _ => clrOk q) (fun q _ v w' => v = .tuple #[] ∧ w'.heap[q.a]? = some (.cells q.xs 24 (0, 0)) ∧ w'.heap[q.b]? = some (.cells (clrAt q.ys 2) 27 (0, 0))) (fun q b => b = q.a ∨ b = q.b)
theorem row_slAt {w : World} {b n c t : Nat} {cs : Array Value} {xs : List Value} (h : w.heap[b]? = some (.cells cs t (0, 0))) (hc : n ≤ c ∧ c ≤ maxLen) (hx : ∀ (i : Nat) (x : Value), xs[i]? = some x → cs[i]? = some x) : SlAt w (Row b n c) n xs :=
  .inr ⟨b, 0, c, rfl, hc, fun i x hi => by simp [World.cell?, h, hx i x hi]⟩
set_option maxHeartbeats 4000000 in
theorem keepsClear : Keeps1 Try.prog GA 25 cClear := by
  refine keepsM (T := TA7a) (A := ann25) hMix keepTA7a (fun _ _ _ _ _ _ _ _ _ => trivial) (calls_of (by kernel_rfl)) (callsW_of (by kernel_rfl)) fun args q w0 hrd hpre hg => ?_
  obtain ⟨a, ca, xs, b, cb, ys⟩ := q
  obtain ⟨rfl, ha, hx0, hb⟩ := hrd
  obtain ⟨hca, hcb, hy0, hy1⟩ := hpre
  dsimp only at ha hx0 hb hca hcb hy0 hy1
  refine ⟨[.x (.v 0), .x (.v 1)], [], [], 3, env0 [Row a 1 ca, J 0] w0, fun b => b, 0, rfl, rfl, fun X hX => mem_none hX rfl, fun X hP hS hw hX hR => ?_⟩
  subst hw; try dsimp only at hR
  rw [vc25 X]
  have hab : a ≠ b := by
    rintro rfl
    rw [ha] at hb
    simp only [Option.some.injEq, Obj.cells.injEq, and_true] at hb
    exact absurd hb.2 (by decide)
  have la : a < X.w0.heap.size := (Array.getElem?_eq_some_iff.1 ha).1
  have lb' : b < X.w0.heap.size := (Array.getElem?_eq_some_iff.1 hb).1
  have ma : X.mine a := (hX a).2 (.inr (.inl rfl))
  have mb : X.mine b := (hX b).2 (.inr (.inr rfl))
  have hXn := hX.n
  have sy : 1 < ys.size := (Array.getElem?_eq_some_iff.1 hy1).1
  have sx : 0 < xs.size := (Array.getElem?_eq_some_iff.1 hx0).1
  -- loads
  have ldR : ∀ {u : World} {ow : List Nat} {K : Value → Prop}, Kn X u → u.heap[a]? = some (.cells xs 24 (0, 0)) → a ∉ ow → K (Row b 2 cb) → Ask (rIad X.P 28 (Row a 1 ca) (J 0)) fun p => Ask (rLoad X u ow 24 p) K := fun {u ow K} hk hu how hK => by
    have hsl : SlAt u (Row a 1 ca) 1 [Row b 2 cb] := row_slAt hu hca (fun i x hi => by
      match i with
      | 0 => simp at hi; subst hi; exact hx0
      | i + 1 => simp at hi)
    refine a_iadN (i := 0) hP ty77 hsl (by decide) ?_
    exact a_load_one (c := Row b 2 cb) hk hsl (by rw [hP]; exact aggL7) (fun g hg => by simp [Value.ownBlock] at hg; subst hg; exact how) rfl hK
  have ldE : ∀ {u : World} {ow : List Nat} {K : Value → Prop} {cs : Array Value} {i : Nat} {c : Int}, Kn X u → u.heap[b]? = some (.cells cs 27 (0, 0)) → b ∉ ow → i < 2 → cs[i]? = some (.int .i64 c) → cs.size = ys.size → K (S7 c) → Ask (rIad X.P 24 (Row b 2 cb) (J i)) fun p => Ask (rLoad X u ow 27 p) K := fun {u ow K cs i c} hk hu how hi hc hz hK => by
    have hsl : SlAt u (Row b 2 cb) 2 [cs.getD 0 undef, cs.getD 1 undef] := row_slAt hu hcb (fun i x hi => by
      match i with
      | 0 => simp at hi; subst hi; simp [show 0 < cs.size by omega]
      | 1 => simp at hi; subst hi; simp [show 1 < cs.size by omega]
      | i + 2 => simp at hi)
    refine a_iadN hP ty7 hsl hi ?_
    refine a_load_agg (cs := encS7 c) hk hsl (by rw [hP]; exact agg7) (by rw [hP]; exact sz7) (fun g hg => by simp [Value.ownBlock] at hg; subst hg; exact how) (by simp [encS7]) (fun j d hj => ?_) hK
    match j with
    | 0 =>
      simp [encS7] at hj; subst hj
      match i, hi with
      | 0, _ => simp [Array.getD, show 0 < cs.size by omega] at hc ⊢; exact hc
      | 1, _ => simp [Array.getD, show 1 < cs.size by omega] at hc ⊢; exact hc
    | j + 1 => simp [encS7] at hj
  have slA : ∀ {w : World}, w.heap[a]? = some (.cells xs 24 (0, 0)) → SlAt w (Row a 1 ca) 1 [Row b 2 cb] := fun hu => row_slAt hu hca (fun i x hi => by
    match i with
    | 0 => simp at hi; subst hi; exact hx0
    | i + 1 => simp at hi)
  have slB : ∀ {w : World} {cs : Array Value}, w.heap[b]? = some (.cells cs 27 (0, 0)) → SlAt w (Row b 2 cb) 2 [] := fun hu => row_slAt hu hcb (fun i x hi => by simp at hi)
  have pastA : ∀ {w : World} {ex : List Nat}, Stp ex X.w0 w → a ∉ ex → w.heap[a]? = some (.cells xs 24 (0, 0)) := fun hs hn => by rw [hs.past a la hn]; exact ha
  refine ⟨fun q w => q = [J 0] ∧ Kn X w ∧ Stp [] X.w0 w, fun q _ => 0, fun w hw => ⟨rfl, hw.kn, hw.stp⟩, ?_⟩
  rintro _ w4 ⟨he, hk4, hs4⟩
  simp only [List.cons.injEq, and_true] at he
  subst he
  have ha4 : w4.heap[a]? = some (.cells xs 24 (0, 0)) := pastA hs4 List.not_mem_nil
  have hb4 : w4.heap[b]? = some (.cells ys 27 (0, 0)) := by rw [hs4.past b lb' List.not_mem_nil]; exact hb
  refine a_len (n := 1) hP ty77 (slA ha4) ?_
  rw [ask_lssN, decide_eq_true (by decide)]
  have g1 : ∀ {K : Value → Prop}, K (Row b 2 cb) → AskG [(.bool true, true)] (rIad X.P 28 (Row a 1 ca) (J 0)) fun p => AskG [(.bool true, true)] (rLoad X w4 [] 24 p) K := fun hK => by
    have := ldR (K := fun v => v = Row b 2 cb) hk4 ha4 List.not_mem_nil rfl
    refine a_G_on condsV1 ⟨this.1, fun v hv => a_G_on condsV1 ?_⟩
    obtain ⟨h1, h2⟩ := this.2 v hv
    exact ⟨h1, fun v' hv' => by rw [h2 v' hv']; exact hK⟩
  refine g1 ?_
  have g2 : ∀ {K : Value → Prop}, K (S7 3) → AskG [(.bool true, true)] (rIad X.P 24 (Row b 2 cb) (J 0)) fun p => AskG [(.bool true, true)] (rLoad X w4 [] 27 p) K := fun hK => by
    have := ldE (K := fun v => v = S7 3) hk4 hb4 List.not_mem_nil (by decide) hy0 rfl rfl
    refine a_G_on condsV1 ⟨this.1, fun v hv => a_G_on condsV1 ?_⟩
    obtain ⟨h1, h2⟩ := this.2 v hv
    exact ⟨h1, fun v' hv' => by rw [h2 v' hv']; exact hK⟩
  refine g2 ?_
  refine a_G_on condsV1 (a_mk7 hP ?_)
  refine a_GI_on condsV1 (i_7IsZ hP hS 3 ?_)
  rw [decide_eq_false (by decide), ask_pickT]
  refine a_if (fun h => by cases h) fun _ => ?_
  refine a_len (n := 1) hP ty77 (slA ha4) ?_
  rw [ask_eqlN, decide_eq_false (by decide)]
  refine a_if (fun h => by cases h) fun _ => ?_
  refine ldR hk4 ha4 List.not_mem_nil ?_
  refine ldR hk4 ha4 List.not_mem_nil ?_
  refine a_iadN (i := 0) hP ty77 (slA ha4) (by decide) ?_
  refine a_storeAt (o := 0) (vs := [Row b 2 cb]) hXn hP szL7 rfl rfl rfl rfl rfl ha4 List.not_mem_nil ma List.not_mem_nil (by omega) fun _ w20 w21 h21 k21 s21 su21 hr21 _ => ?_
  rw [splice_same hx0] at hr21
  refine a_iadN (i := 0) hP ty77 (slA hr21) (by decide) ?_
  refine a_storeAt (o := 0) (vs := [Row b 2 cb]) hXn hP szL7 rfl rfl rfl rfl rfl hr21 List.not_mem_nil ma List.not_mem_nil (by omega) fun _ w22 w23 h23 k23 s23 su23 hr23 _ => ?_
  rw [splice_same hx0] at hr23
  have hb23 : w23.heap[b]? = some (.cells ys 27 (0, 0)) := by
    have z4 := hs4.size
    have z21 := su21.size
    rw [su23.past b (by omega) (by simp; exact fun h => hab h.symm), su21.past b (by omega) (by simp; exact fun h => hab h.symm)]
    exact hb4
  refine ldR k23 hr23 List.not_mem_nil ?_
  refine ldE k23 hb23 List.not_mem_nil (by decide) hy0 rfl ?_
  refine a_mk7 hP ?_
  refine i_7Inv hP hS 3 ?_
  intro b0 hb0
  refine a_S7 (a_sel1 rfl ?_)
  rw [show sInv 3 = 5 by decide]
  have z23 : X.w0.heap.size ≤ w23.heap.size := k23.sz0
  refine ldR k23 hr23 (by simp; omega) ?_
  refine a_len (n := 2) hP ty7 (slB hb23) ?_
  refine ⟨fun q w => ∃ j, q = [J j] ∧ j ≤ 2 ∧ Kn X w ∧ w.heap[a]? = some (.cells xs 24 (0, 0)) ∧ w.heap[b]? = some (.cells (clrAt ys j) 27 (0, 0)), fun q _ => match q with | i :: _ => 2 - intNat i | _ => 0, fun w hw => ⟨0, rfl, by decide, hw.kn, ?_, ?_⟩, ?_⟩
  · rw [hw.stp.past a (by omega) (by simp; omega)]; exact hr23
  · rw [hw.stp.past b (by omega) (by simp; omega)]; exact hb23
  rintro _ w36 ⟨j, he, hj, hk36, ha36, hb36⟩
  simp only [List.cons.injEq, and_true] at he
  subst he
  rw [ask_lssN]
  have szj : (clrAt ys j).size = ys.size := by
    match j, hj with
    | 0, _ => rfl
    | 1, _ => exact sp_size (by omega)
    | 2, _ => exact (sp_size (by rw [sp_size (by omega)]; omega)).trans (sp_size (by omega))
  refine a_ifD (fun hlt => ?_) fun hge => ?_
  · refine ldR hk36 ha36 List.not_mem_nil ?_
    refine ldR hk36 ha36 List.not_mem_nil ?_
    obtain ⟨c, d, hc, hd, hnext⟩ : ∃ c d : Int, (clrAt ys j)[j]? = some (.int .i64 c) ∧ sR.mul c 5 = d ∧ splice (clrAt ys j) j [.int .i64 d] = clrAt ys (j + 1) := by
      match j, hlt with
      | 0, _ => exact ⟨3, 15, hy0, by decide, rfl⟩
      | 1, _ => exact ⟨5, 25, by show (splice ys 0 [J 15])[1]? = _; rw [sp_get (by omega), if_neg (by decide)]; exact hy1, by decide, rfl⟩
    refine ldE hk36 hb36 List.not_mem_nil hlt hc szj ?_
    refine a_mk7 hP ?_
    refine i_7Mul hP hS c 5 ?_
    rw [hd]
    refine a_iadN hP ty7 (slB hb36) hlt ?_
    refine a_storeAt (o := j) (vs := encS7 d) hXn hP sz7 (by simp [argsFn, Ptr]) rfl rfl rfl rfl hb36 List.not_mem_nil mb (by simp [kb25_0]; omega) (by rw [szj]; omega) fun _ w46 w47 h47 k47 s47 su47 hr47 _ => ?_
    rw [encS7, hnext] at hr47
    have ha47 : w47.heap[a]? = some (.cells xs 24 (0, 0)) := by
      have := hk36.sz0
      rw [su47.past a (by omega) (by simp; exact hab)]; exact ha36
    rw [ask_succ (by omega)]
    intro w2 hw2
    have z47 := k47.sz0
    exact ⟨⟨j + 1, rfl, hlt, hw2.kn, by rw [hw2.stp.past a (by omega) List.not_mem_nil]; exact ha47, by rw [hw2.stp.past b (by omega) List.not_mem_nil]; exact hr47⟩, by simp [intNat]; omega⟩
  · obtain rfl : j = 2 := by omega
    refine a_len (n := 1) hP ty77 (slA ha36) ?_
    have z36 := hk36.sz0
    refine ⟨fun q w => ∃ i, q = [J i, .int .i64 5] ∧ i ≤ 1 ∧ Kn X w ∧ w.heap[a]? = some (.cells xs 24 (0, 0)) ∧ w.heap[b]? = some (.cells (clrAt ys 2) 27 (0, 0)), fun q _ => match q with | i :: _ => 1 - intNat i | _ => 0, fun w hw => ⟨0, rfl, by decide, hw.kn, ?_, ?_⟩, ?_⟩
    · rw [hw.stp.past a (by omega) List.not_mem_nil]; exact ha36
    · rw [hw.stp.past b (by omega) List.not_mem_nil]; exact hb36
    rintro _ _ w41 ⟨i, he, hi, hk41, ha41, hb41⟩
    simp only [List.cons.injEq, and_true] at he
    obtain ⟨rfl, rfl⟩ := he
    have z41 := hk41.sz0
    rw [ask_lssN]
    refine a_ifD (fun hlt => ?_) fun hge => ?_
    · obtain rfl : i = 0 := by omega
      refine ldR hk41 ha41 List.not_mem_nil ?_
      rw [ask_eqlN, decide_eq_true rfl]
      iterate 3 refine a_G_off (condsV1_not (by decide)) fun _ => ?_
      refine a_GI_off (condsV1_not (by decide)) fun _ => ?_
      rw [ask_pickT]
      refine a_if (fun _ => ?_) fun h => by cases h
      rw [ask_succ (by decide)]
      intro w2 hw2
      exact ⟨⟨1, rfl, by decide, hw2.kn, by rw [hw2.stp.past a (by omega) List.not_mem_nil]; exact ha41, by rw [hw2.stp.past b (by omega) List.not_mem_nil]; exact hb41⟩, by simp [intNat]⟩
    · refine hR _ _ _ _ fun w hw => ⟨rfl, by rw [hw.stp.past a (by omega) List.not_mem_nil]; exact ha41, by rw [hw.stp.past b (by omega) List.not_mem_nil]; exact hb41⟩
#print axioms keepsClear
end Go.Vc
