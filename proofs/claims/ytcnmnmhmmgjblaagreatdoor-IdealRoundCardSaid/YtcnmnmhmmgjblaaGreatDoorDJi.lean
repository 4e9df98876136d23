/-
  The prover in the middle: the walk.
-/
import Derived.Test.YtcnmnmhmmgjblaaGreatDoorDJh
namespace Go.Vc
open Go Go.Proofs Go.RowKit
/-! ### what it says -/
structure Md where
  d : Pq
  y : F
  z : F
namespace Md
variable (q : Md)
def wt (i : Nat) : F := wtF q.z q.d.m i
def sl (i : Nat) : F := rF (q.d.t.2.2.2.2.1.getD i 0)
def sr (i : Nat) : F := rF (q.d.t.2.2.2.2.2.getD i 0)
def l0 (i : Nat) : F := q.d.bit i - q.z
def r0 (i : Nat) : F := fp q.y i * (q.d.bit i - 1 + q.z) + q.wt i
def r1 (i : Nat) : F := fp q.y i * q.sr i
def t1 : F := sumF' (fun i => q.l0 i * q.r1 i) q.d.N + sumF' (fun i => q.sl i * q.r0 i) q.d.N
def t2 : F := sumF' (fun i => q.sl i * q.r1 i) q.d.N
def T1 : F := q.t1 * rF q.d.p.1 + rF q.d.t.2.2.1 * rF q.d.p.2.1
def T2 : F := q.t2 * rF q.d.p.1 + rF q.d.t.2.2.2.1 * rF q.d.p.2.1
end Md
theorem prF_mm (f g : Nat → F) (n : Nat) : prF ((mapN f n).map (fun x : F => x.val)) ((mapN g n).map (fun x : F => x.val)) n = sumF' (fun i => f i * g i) n := sumF'_congr n fun i hi => by rw [getD_val, getD_val, mapN_get f 0 hi, mapN_get g 0 hi]
theorem prF_nm (l : List Nat) (g : Nat → F) (n : Nat) : prF l ((mapN g n).map (fun x : F => x.val)) n = sumF' (fun i => rF (l.getD i 0) * g i) n := sumF'_congr n fun i hi => by rw [getD_val, mapN_get g 0 hi]
theorem Stp.dropR {ex ex' : List Nat} {u w : World} (h : Stp (ex ++ ex') u w) (hb : ∀ q ∈ ex', u.heap.size ≤ q) : Stp ex u w :=
  ⟨h.size, fun q hq hn => h.past q hq fun hm => by
    rcases List.mem_append.1 hm with h1 | h1
    · exact hn h1
    · have := hb q h1; omega⟩
def ann38 : Ann := ⟨[(9, ([59], []))], [30, 28, 48, 29, 49, 71], 70, [(92, false), (67, false)], [4, 5, 11, 12, 14, 16], some false, [], []⟩
def kb38_0 (b0 b1 b2 : Nat) (x4 x5 : Value) : List KB := [⟨b0, true, 29, (aggArr x4)⟩, ⟨b1, true, 29, (aggArr x5)⟩, ⟨b2, true, 83, #[(U 0), (U 0), (U 0), (U 0), (U 0), (U 0), (U 0), (U 0), (U 0), (U 0), (U 0), (U 0), (U 0), (U 0), (U 0), (U 0), (U 0), (U 0), (U 0), (U 0), (U 0), (U 0), (U 0), (U 0), (U 0), (U 0), (U 0), (U 0), (U 0), (U 0), (U 0), (U 0), (U 0), (U 0), (U 0), (U 0), (U 0), (U 0), (U 0), (U 0), (.slice none 0 0), (.slice none 0 0)]⟩]
def kb38_1 (b0 b1 b2 b3 : Nat) (x4 x5 x35 : Value) : List KB := [⟨b0, true, 29, (aggArr x4)⟩, ⟨b1, true, 29, (aggArr x5)⟩, ⟨b2, true, 83, #[(U 0), (U 0), (U 0), (U 0), (U 0), (U 0), (U 0), (U 0), (U 0), (U 0), (U 0), (U 0), (U 0), (U 0), (U 0), (U 0), (U 0), (U 0), (U 0), (U 0), (U 0), (U 0), (U 0), (U 0), (U 0), (U 0), (U 0), (U 0), (U 0), (U 0), (U 0), (U 0), (U 0), (U 0), (U 0), (U 0), (U 0), (U 0), (U 0), (U 0), (.slice none 0 0), (.slice none 0 0)]⟩, ⟨b3, true, 29, (aggArr x35)⟩]
def kb38_2 (b0 b1 b2 b3 : Nat) (x4 x5 x52 : Value) : List KB := [⟨b0, true, 29, (aggArr x4)⟩, ⟨b1, true, 29, (aggArr x5)⟩, ⟨b2, true, 83, #[(U 0), (U 0), (U 0), (U 0), (U 0), (U 0), (U 0), (U 0), (U 0), (U 0), (U 0), (U 0), (U 0), (U 0), (U 0), (U 0), (U 0), (U 0), (U 0), (U 0), (U 0), (U 0), (U 0), (U 0), (U 0), (U 0), (U 0), (U 0), (U 0), (U 0), (U 0), (U 0), (U 0), (U 0), (U 0), (U 0), (U 0), (U 0), (U 0), (U 0), (.slice none 0 0), (.slice none 0 0)]⟩, ⟨b3, true, 29, (aggArr x52)⟩]
def kb38_3 (b0 b1 b2 b3 b4 : Nat) (x4 x5 x52 x65 : Value) : List KB := [⟨b0, true, 29, (aggArr x4)⟩, ⟨b1, true, 29, (aggArr x5)⟩, ⟨b2, true, 83, #[(U 0), (U 0), (U 0), (U 0), (U 0), (U 0), (U 0), (U 0), (U 0), (U 0), (U 0), (U 0), (U 0), (U 0), (U 0), (U 0), (U 0), (U 0), (U 0), (U 0), (U 0), (U 0), (U 0), (U 0), (U 0), (U 0), (U 0), (U 0), (U 0), (U 0), (U 0), (U 0), (U 0), (U 0), (U 0), (U 0), (U 0), (U 0), (U 0), (U 0), (.slice none 0 0), (.slice none 0 0)]⟩, ⟨b3, true, 29, (aggArr x52)⟩, ⟨b4, true, 29, (aggArr x65)⟩]
def kb38_4 (b0 b1 b2 b3 b4 b5 : Nat) (x4 x5 x52 x65 x78 : Value) : List KB := [⟨b0, true, 29, (aggArr x4)⟩, ⟨b1, true, 29, (aggArr x5)⟩, ⟨b2, true, 83, #[(U 0), (U 0), (U 0), (U 0), (U 0), (U 0), (U 0), (U 0), (U 0), (U 0), (U 0), (U 0), (U 0), (U 0), (U 0), (U 0), (U 0), (U 0), (U 0), (U 0), (U 0), (U 0), (U 0), (U 0), (U 0), (U 0), (U 0), (U 0), (U 0), (U 0), (U 0), (U 0), (U 0), (U 0), (U 0), (U 0), (U 0), (U 0), (U 0), (U 0), (.slice none 0 0), (.slice none 0 0)]⟩, ⟨b3, true, 29, (aggArr x52)⟩, ⟨b4, true, 29, (aggArr x65)⟩, ⟨b5, true, 29, (aggArr x78)⟩]
theorem vc38 (X : Ctx) (β : Nat → Nat) (x0 x1 x2 : Value) : (run Tryz.prog ann38 38 [.x (.v 0), .x (.v 1), .x (.v 2)] [] [] 4).den X (env0 [x0, x1, x2] X.w0) 4 β 0 (fun _ _ _ => False) = (
 Ask (rAgg 4 x1) fun x4 =>
 AskNew X.w0 fun b0 =>
 Ask (rAgg 4 x2) fun x5 =>
 AskNew X.w0 fun b1 =>
 AskNew X.w0 fun b2 =>
 Ask (rBin X.P .eql 100 false true x0 (.pointer none)) fun x6 =>
 AskG [(x6, false)] (rGen X.P (Op.nilCheck (Operand.tmp 22)) 0 [(22, x0)]) fun x7 =>
 AskG [(x6, false)] (rFad X.P 167 x7 0) fun x8 =>
 AskG [(x6, false)] (rLoad X X.w0 [] 3 x8) fun x9 =>
 AskG [(x6, false)] (rBin X.P .eql 3 false true x9 (J 0)) fun x10 =>
 Ask (rPick x6 (.bool true) x10) fun x11 =>
 (∃ t, x11 = .bool t) ∧ (x11 = .bool true →
 Ret X X.w0 [b2] [] (.tuple #[(.agg #[(U 0), (U 0), (U 0), (U 0), (U 0), (U 0), (U 0), (U 0), (U 0), (U 0), (U 0), (U 0), (U 0), (U 0), (U 0), (U 0), (U 0), (U 0), (U 0), (U 0), (U 0), (U 0), (U 0), (U 0), (U 0), (U 0), (U 0), (U 0), (U 0), (U 0), (U 0), (U 0), (U 0), (U 0), (U 0), (U 0), (U 0), (U 0), (U 0), (U 0), (.slice none 0 0), (.slice none 0 0)]), (J 1)])) ∧ (x11 = .bool false →
 Ask (rGen X.P (Op.nilCheck (Operand.tmp 30)) 0 [(30, x0)]) fun x12 =>
 Ask (rFad X.P 167 x12 0) fun x13 =>
 Ask (rLoad X X.w0 [] 3 x13) fun x14 =>
 Ask (rBin X.P .neq 3 false true x14 (J 1)) fun x15 =>
 (∃ t, x15 = .bool t) ∧ (x15 = .bool true →
 Ret X X.w0 [b2] [] (.tuple #[(.agg #[(U 0), (U 0), (U 0), (U 0), (U 0), (U 0), (U 0), (U 0), (U 0), (U 0), (U 0), (U 0), (U 0), (U 0), (U 0), (U 0), (U 0), (U 0), (U 0), (U 0), (U 0), (U 0), (U 0), (U 0), (U 0), (U 0), (U 0), (U 0), (U 0), (U 0), (U 0), (U 0), (U 0), (U 0), (U 0), (U 0), (U 0), (U 0), (U 0), (U 0), (.slice none 0 0), (.slice none 0 0)]), (J 6)])) ∧ (x15 = .bool false →
 AskF X 30 [x4] fun x16 =>
 AskGF X [(x16, false)] 30 [x5] fun x17 =>
 Ask (rPick x16 (.bool true) x17) fun x18 =>
 (∃ t, x18 = .bool t) ∧ (x18 = .bool true →
 Ret X X.w0 [b2] [] (.tuple #[(.agg #[(U 0), (U 0), (U 0), (U 0), (U 0), (U 0), (U 0), (U 0), (U 0), (U 0), (U 0), (U 0), (U 0), (U 0), (U 0), (U 0), (U 0), (U 0), (U 0), (U 0), (U 0), (U 0), (U 0), (U 0), (U 0), (U 0), (U 0), (U 0), (U 0), (U 0), (U 0), (U 0), (U 0), (U 0), (U 0), (U 0), (U 0), (U 0), (U 0), (U 0), (.slice none 0 0), (.slice none 0 0)]), (J 4)])) ∧ (x18 = .bool false →
 Ask (rGen X.P (Op.nilCheck (Operand.tmp 45)) 0 [(45, x0)]) fun x19 =>
 Ask (rFad X.P 167 x19 1) fun x20 =>
 Ask (rLoad X X.w0 [] 45 x20) fun x21 =>
 AskW X X.w0 [] (kb38_0 b0 b1 b2 x4 x5) false 92 [x21, x4, x5] fun x22 w22 =>
 Ask (rExt X.P x22 0) fun x23 =>
 Ask (rExt X.P x22 1) fun x24 =>
 Ask (rGen X.P (Op.nilCheck (Operand.tmp 54)) 0 [(54, x0)]) fun x25 =>
 Ask (rFad X.P 167 x25 4) fun x26 =>
 Ask (rLoad X w22 [] 28 x26) fun x27 =>
 Ask (rLen X.P 28 x27) fun x28 =>
 ∃ (I0 : List Value → World → Prop) (μ0 : List Value → World → Nat), (∀ w, KnownV X w22 [] (kb38_0 b0 b1 b2 x4 x5) w → I0 [(J 0)] w) ∧ ∀ x29 w30, I0 [x29] w30 →
 Ask (rBin X.P .lss 3 false false x29 x28) fun x31 =>
 (∃ t, x31 = .bool t) ∧ (x31 = .bool true →
 Ask (rIad X.P 28 x27 x29) fun x32 =>
 Ask (rLoad X w30 [] 29 x32) fun x33 =>
 Ask (rAgg 4 (.agg #[(U 0), (U 0), (U 0), (U 0)])) fun _ =>
 AskNew w30 fun b3 =>
 Ask (rAgg 4 x33) fun x35 =>
 Ask (rGen X.P (Op.nilCheck (Operand.tmp 65)) 0 [(65, x0)]) fun x36 =>
 Ask (rFad X.P 167 x36 5) fun x37 =>
 Ask (rFad X.P 164 x37 0) fun x38 =>
 Ask (rLoad X w30 [b3] 28 x38) fun x39 =>
 AskF X 48 [x35, x5] fun x40 =>
 AskO X w30 [b3] (kb38_1 b0 b1 b2 b3 x4 x5 x35) false (Op.buildSlice 28 1 #[(0, Operand.tmp 72)]) 28 [(72, x40)] fun x41 w41 =>
 AskO X w41 [] (kb38_1 b0 b1 b2 b3 x4 x5 x35) true (appOp (.tmp 69) (.tmp 73) 28) 28 [(69, x39), (73, x41)] fun x42 w42 =>
 Ask (rGen X.P (Op.nilCheck (Operand.tmp 64)) 0 [(64, x0)]) fun x43 =>
 Ask (rFad X.P 167 x43 5) fun x44 =>
 Ask (rFad X.P 164 x44 0) fun x45 =>
 AskO X w42 [] (kb38_1 b0 b1 b2 b3 x4 x5 x35) true (Op.store 28 (Operand.tmp 77) (Operand.tmp 74)) 0 [(77, x45), (74, x42)] fun _ w46 =>
 Ask (rGen X.P (Op.nilCheck (Operand.tmp 79)) 0 [(79, x0)]) fun x47 =>
 Ask (rFad X.P 167 x47 6) fun x48 =>
 Ask (rFad X.P 164 x48 0) fun x49 =>
 Ask (rLoad X w46 [] 28 x49) fun x50 =>
 Ask (rIad X.P 28 x23 x29) fun x51 =>
 Ask (rLoad X w46 [] 29 x51) fun x52 =>
 AskF X 28 [(U 1)] fun x53 =>
 AskF X 48 [x35, x53] fun x54 =>
 AskF X 29 [x54, x5] fun x55 =>
 AskF X 49 [x52, x55] fun x56 =>
 Ask (rIad X.P 28 x24 x29) fun x57 =>
 Ask (rLoad X w46 [] 29 x57) fun x58 =>
 AskF X 29 [x56, x58] fun x59 =>
 AskO X w46 [] (kb38_1 b0 b1 b2 b3 x4 x5 x35) false (Op.buildSlice 28 1 #[(0, Operand.tmp 98)]) 28 [(98, x59)] fun x60 w60 =>
 AskO X w60 [] (kb38_1 b0 b1 b2 b3 x4 x5 x35) true (appOp (.tmp 83) (.tmp 99) 28) 28 [(83, x50), (99, x60)] fun x61 w61 =>
 Ask (rGen X.P (Op.nilCheck (Operand.tmp 78)) 0 [(78, x0)]) fun x62 =>
 Ask (rFad X.P 167 x62 6) fun x63 =>
 Ask (rFad X.P 164 x63 0) fun x64 =>
 AskO X w61 [] (kb38_1 b0 b1 b2 b3 x4 x5 x35) true (Op.store 28 (Operand.tmp 103) (Operand.tmp 100)) 0 [(103, x64), (100, x61)] fun _ w65 =>
 Ask (rGen X.P (Op.nilCheck (Operand.tmp 105)) 0 [(105, x0)]) fun x66 =>
 Ask (rFad X.P 167 x66 6) fun x67 =>
 Ask (rFad X.P 164 x67 1) fun x68 =>
 Ask (rLoad X w65 [] 28 x68) fun x69 =>
 Ask (rIad X.P 28 x23 x29) fun x70 =>
 Ask (rLoad X w65 [] 29 x70) fun x71 =>
 Ask (rGen X.P (Op.nilCheck (Operand.tmp 114)) 0 [(114, x0)]) fun x72 =>
 Ask (rFad X.P 167 x72 2) fun x73 =>
 Ask (rFad X.P 36 x73 5) fun x74 =>
 Ask (rLoad X w65 [] 28 x74) fun x75 =>
 Ask (rIad X.P 28 x75 x29) fun x76 =>
 Ask (rLoad X w65 [] 29 x76) fun x77 =>
 AskF X 49 [x71, x77] fun x78 =>
 AskO X w65 [] (kb38_1 b0 b1 b2 b3 x4 x5 x35) false (Op.buildSlice 28 1 #[(0, Operand.tmp 122)]) 28 [(122, x78)] fun x79 w79 =>
 AskO X w79 [] (kb38_1 b0 b1 b2 b3 x4 x5 x35) true (appOp (.tmp 109) (.tmp 123) 28) 28 [(109, x69), (123, x79)] fun x80 w80 =>
 Ask (rGen X.P (Op.nilCheck (Operand.tmp 104)) 0 [(104, x0)]) fun x81 =>
 Ask (rFad X.P 167 x81 6) fun x82 =>
 Ask (rFad X.P 164 x82 1) fun x83 =>
 AskO X w80 [] (kb38_1 b0 b1 b2 b3 x4 x5 x35) true (Op.store 28 (Operand.tmp 127) (Operand.tmp 124)) 0 [(127, x83), (124, x80)] fun _ w84 =>
 Ask (rBin X.P .add 3 false true x29 (J 1)) fun x85 =>
 Again X w84 [] [] fun w => I0 [x85] w ∧ μ0 [x85] w < μ0 [x29] w30) ∧ (x31 = .bool false →
 Ask (rGen X.P (Op.nilCheck (Operand.tmp 130)) 0 [(130, x0)]) fun x32 =>
 Ask (rFad X.P 167 x32 2) fun x33 =>
 Ask (rFad X.P 36 x33 4) fun x34 =>
 Ask (rLoad X w30 [] 28 x34) fun x35 =>
 Ask (rGen X.P (Op.nilCheck (Operand.tmp 129)) 0 [(129, x0)]) fun x36 =>
 Ask (rFad X.P 167 x36 5) fun x37 =>
 Ask (rFad X.P 164 x37 1) fun x38 =>
 AskO X w30 [] (kb38_0 b0 b1 b2 x4 x5) true (Op.store 28 (Operand.tmp 137) (Operand.tmp 134)) 0 [(137, x38), (134, x35)] fun _ w39 =>
 Ask (rGen X.P (Op.nilCheck (Operand.tmp 139)) 0 [(139, x0)]) fun x40 =>
 Ask (rFad X.P 167 x40 5) fun x41 =>
 Ask (rFad X.P 164 x41 0) fun x42 =>
 Ask (rLoad X w39 [] 28 x42) fun x43 =>
 Ask (rGen X.P (Op.nilCheck (Operand.tmp 144)) 0 [(144, x0)]) fun x44 =>
 Ask (rFad X.P 167 x44 6) fun x45 =>
 Ask (rFad X.P 164 x45 1) fun x46 =>
 Ask (rLoad X w39 [] 28 x46) fun x47 =>
 AskW X w39 [] (kb38_0 b0 b1 b2 x4 x5) false 67 [x43, x47] fun x48 w48 =>
 Ask (rExt X.P x48 0) fun x49 =>
 Ask (rExt X.P x48 1) fun _ =>
 Ask (rAgg 4 (.agg #[(U 0), (U 0), (U 0), (U 0)])) fun _ =>
 AskNew w39 fun b3 =>
 Ask (rAgg 4 x49) fun x52 =>
 Ask (rGen X.P (Op.nilCheck (Operand.tmp 153)) 0 [(153, x0)]) fun x53 =>
 Ask (rFad X.P 167 x53 5) fun x54 =>
 Ask (rFad X.P 164 x54 1) fun x55 =>
 Ask (rLoad X w48 [b3] 28 x55) fun x56 =>
 Ask (rGen X.P (Op.nilCheck (Operand.tmp 158)) 0 [(158, x0)]) fun x57 =>
 Ask (rFad X.P 167 x57 6) fun x58 =>
 Ask (rFad X.P 164 x58 0) fun x59 =>
 Ask (rLoad X w48 [b3] 28 x59) fun x60 =>
 AskW X w48 [b3] (kb38_2 b0 b1 b2 b3 x4 x5 x52) false 67 [x56, x60] fun x61 w61 =>
 Ask (rExt X.P x61 0) fun x62 =>
 Ask (rExt X.P x61 1) fun _ =>
 Ask (rAgg 4 (.agg #[(U 0), (U 0), (U 0), (U 0)])) fun _ =>
 AskNew w48 fun b4 =>
 Ask (rAgg 4 x62) fun x65 =>
 Ask (rGen X.P (Op.nilCheck (Operand.tmp 167)) 0 [(167, x0)]) fun x66 =>
 Ask (rFad X.P 167 x66 5) fun x67 =>
 Ask (rFad X.P 164 x67 1) fun x68 =>
 Ask (rLoad X w61 [b4] 28 x68) fun x69 =>
 Ask (rGen X.P (Op.nilCheck (Operand.tmp 172)) 0 [(172, x0)]) fun x70 =>
 Ask (rFad X.P 167 x70 6) fun x71 =>
 Ask (rFad X.P 164 x71 1) fun x72 =>
 Ask (rLoad X w61 [b4] 28 x72) fun x73 =>
 AskW X w61 [b4] (kb38_3 b0 b1 b2 b3 b4 x4 x5 x52 x65) false 67 [x69, x73] fun x74 w74 =>
 Ask (rExt X.P x74 0) fun x75 =>
 Ask (rExt X.P x74 1) fun _ =>
 Ask (rAgg 4 (.agg #[(U 0), (U 0), (U 0), (U 0)])) fun _ =>
 AskNew w61 fun b5 =>
 Ask (rAgg 4 x75) fun x78 =>
 Ask (rGen X.P (Op.nilCheck (Operand.tmp 181)) 0 [(181, x0)]) fun x79 =>
 Ask (rFad X.P 167 x79 8) fun x80 =>
 Ask (rLoad X w74 [b5] 165 x80) fun x81 =>
 AskF X 29 [x52, x65] fun x82 =>
 Ask (rGen X.P (Op.nilCheck (Operand.tmp 188)) 0 [(188, x0)]) fun x83 =>
 Ask (rFad X.P 167 x83 2) fun x84 =>
 Ask (rFad X.P 36 x84 2) fun x85 =>
 Ask (rLoad X w74 [b5] 29 x85) fun x86 =>
 AskV X w74 [b5] (kb38_4 b0 b1 b2 b3 b4 b5 x4 x5 x52 x65 x78) false x81 [x82, x86] fun x87 w87 =>
 Ask (rGen X.P (Op.nilCheck (Operand.tmp 180)) 0 [(180, x0)]) fun x88 =>
 Ask (rFad X.P 167 x88 7) fun x89 =>
 Ask (rFad X.P 83 x89 2) fun x90 =>
 AskO X w87 [] (kb38_4 b0 b1 b2 b3 b4 b5 x4 x5 x52 x65 x78) true (Op.store 31 (Operand.tmp 196) (Operand.tmp 193)) 0 [(196, x90), (193, x87)] fun _ w91 =>
 Ask (rGen X.P (Op.nilCheck (Operand.tmp 198)) 0 [(198, x0)]) fun x92 =>
 Ask (rFad X.P 167 x92 8) fun x93 =>
 Ask (rLoad X w91 [] 165 x93) fun x94 =>
 Ask (rGen X.P (Op.nilCheck (Operand.tmp 203)) 0 [(203, x0)]) fun x95 =>
 Ask (rFad X.P 167 x95 2) fun x96 =>
 Ask (rFad X.P 36 x96 3) fun x97 =>
 Ask (rLoad X w91 [] 29 x97) fun x98 =>
 AskV X w91 [] (kb38_4 b0 b1 b2 b3 b4 b5 x4 x5 x52 x65 x78) false x94 [x78, x98] fun x99 w99 =>
 Ask (rGen X.P (Op.nilCheck (Operand.tmp 197)) 0 [(197, x0)]) fun x100 =>
 Ask (rFad X.P 167 x100 7) fun x101 =>
 Ask (rFad X.P 83 x101 3) fun x102 =>
 AskO X w99 [] (kb38_4 b0 b1 b2 b3 b4 b5 x4 x5 x52 x65 x78) true (Op.store 31 (Operand.tmp 211) (Operand.tmp 208)) 0 [(211, x102), (208, x99)] fun _ w103 =>
 AskF X 71 [x4] fun x104 =>
 AskF X 71 [x5] fun x105 =>
 Ask (rGen X.P (Op.nilCheck (Operand.tmp 212)) 0 [(212, x0)]) fun x106 =>
 Ask (rFad X.P 167 x106 7) fun x107 =>
 Ask (rFad X.P 83 x107 4) fun x108 =>
 AskO X w103 [] (kb38_4 b0 b1 b2 b3 b4 b5 x4 x5 x52 x65 x78) true (Op.store 29 (Operand.tmp 220) (Operand.tmp 215)) 0 [(220, x108), (215, x104)] fun _ w109 =>
 Ask (rGen X.P (Op.nilCheck (Operand.tmp 213)) 0 [(213, x0)]) fun x110 =>
 Ask (rFad X.P 167 x110 7) fun x111 =>
 Ask (rFad X.P 83 x111 5) fun x112 =>
 AskO X w109 [] (kb38_4 b0 b1 b2 b3 b4 b5 x4 x5 x52 x65 x78) true (Op.store 29 (Operand.tmp 223) (Operand.tmp 217)) 0 [(223, x112), (217, x105)] fun _ w113 =>
 Ask (rGen X.P (Op.nilCheck (Operand.tmp 224)) 0 [(224, x0)]) fun x114 =>
 Ask (rFad X.P 167 x114 0) fun x115 =>
 AskO X w113 [] (kb38_4 b0 b1 b2 b3 b4 b5 x4 x5 x52 x65 x78) true (Op.store 3 (Operand.tmp 226) (Operand.const (Value.int IntKind.i64 2))) 0 [(226, x115)] fun _ w116 =>
 Ask (rGen X.P (Op.nilCheck (Operand.tmp 227)) 0 [(227, x0)]) fun x117 =>
 Ask (rFad X.P 167 x117 7) fun x118 =>
 Ask (rLoad X w116 [] 83 x118) fun x119 =>
 Ask (rAgg 42 x119) fun x120 =>
 Ret X w116 [b2] [] (.tuple #[x120, (J 0)])))))) := by kernel_rfl
def cMid : Contract := fnM cPrA (fun a _ => a.d.Ok ∧ a.P.ph = 1 ∧ a.P.lc = nl ∧ a.P.rc = nl ∧ a.P.rd = nl ∧ ∃ y z, a.s = [y, z] ∧ rF y ≠ 0 ∧ rF z ≠ 0)
  (fun a _ v w' => ∀ y z, a.s = [y, z] → ∃ P', v = .tuple #[.agg (vwL a.P.A a.P.S (Md.T1 ⟨a.d, rF y, rF z⟩) (Md.T2 ⟨a.d, rF y, rF z⟩) (rF y) (rF z) 0 0 0 0 nl nl).toArray, J 0] ∧
    PrAt w' a.b a.c P' a.d (mapN (Md.l0 ⟨a.d, rF y, rF z⟩) a.d.N) a.d.t.2.2.2.2.1 (mapN (Md.r0 ⟨a.d, rF y, rF z⟩) a.d.N) (mapN (Md.r1 ⟨a.d, rF y, rF z⟩) a.d.N) ∧ P'.ph = 2 ∧ P'.A = a.P.A ∧ P'.S = a.P.S ∧ P'.T1 = Md.T1 ⟨a.d, rF y, rF z⟩ ∧ P'.T2 = Md.T2 ⟨a.d, rF y, rF z⟩ ∧ P'.y = rF y ∧ P'.z = rF z)
  (fun a b => b = a.b)
def Tmd : Table := ((((((((T0.add 92 cPln).add 67 cInn).add 89 cB1).add 28 cRInt).add 48 cqSub).add 29 cqAdd).add 49 cqMul).add 30 cqIsZ).add 71 cqLeast
theorem keepTmd : AllKeep Tryz.prog GT Tmd := ((((((((keepT0.add keepsPln).add keepsInn).add keepsB1).add keepsSInt).add keepsqSub).add keepsqAdd).add keepsqMul).add keepsqIsZ).add keepsqLeast
set_option maxHeartbeats 8000000 in
theorem keepsMid : Keeps1 Tryz.prog GT 38 cMid := by
  refine keepsM (T := Tmd) (A := ann38) hMix keepTmd (fun a w0 w args hrd _ hg h hs => hGTM _ w0 w (fun b hb => by rw [hb]; exact hrd.2.2.pos) hg h hs) (calls_of (by kernel_rfl)) (callsW_of (by kernel_rfl)) fun args ⟨b, c, P, d, Lc, Ld, Rc, Rd, s⟩ w0 hrd hpre hgt => ?_
  obtain ⟨rfl, hs, hA⟩ := hrd
  obtain ⟨ok, hph, hlc, hrc, hrd', y, z, es, hy0, hz0⟩ := hpre
  dsimp only at hs hA ok hph hlc hrc hrd' es
  subst es
  have hy : y < W256 := hs y (by simp)
  have hz : z < W256 := hs z (by simp)
  refine ⟨[.x (.v 0), .x (.v 1), .x (.v 2)], [], [], 4, env0 [Pt b, S y, S z] w0, fun b => b, 0, rfl, rfl, fun X hX => mem_none hX rfl, fun X hP hS hw hX hR => ?_⟩
  subst hw; try dsimp only at hR
  rw [vc38 X]
  have hbl : b < X.w0.heap.size := (Array.getElem?_eq_some_iff.1 hA.row).1
  have hmine : X.mine b := (hX b).2 (.inr rfl)
  have hN := ok.N
  have hN0 : 0 < d.N := Nat.mul_pos ok.m0 ok.n0
  have lsl := ok.sl
  have lsr := ok.sr
  rw [ask_aggS]; intro b0 hb0
  rw [ask_aggS]; intro b1 hb1 b2 hb2
  have hc0 : ∀ (e : Nat) (v : Value), (P.cells d)[e]? = some v → (P.cells d).toArray[e]? = some v := fun e v h => by simpa using h
  rw [ask_eq_nilpJ (hP ▸ ptPr)]
  refine a_G_on condsV1 (a_nilCheck ?_)
  refine a_G_on condsV1 (a_fadP hP fdP0 ?_)
  refine a_G_on condsV1 (a_ldPr (v := J P.ph) hP (kn0 X) aggIn hA.row List.not_mem_nil rfl ?_)
  refine a_G_on condsV1 ?_
  rw [hph, ask_eqlN, ask_pickF]
  refine a_if (fun h => by cases h) fun _ => ?_
  refine a_nf hP fdP0 ?_
  refine a_ldPr (v := J P.ph) hP (kn0 X) aggIn hA.row List.not_mem_nil rfl ?_
  rw [hph, ask_neqN]
  refine a_if (fun h => by cases h) fun _ => ?_
  refine call_PE hS (T := Tmd) (f := 30) rfl y hy ?_
  rw [decide_eq_false hy0]
  refine a_GF_on condsV1 (call_PE hS (T := Tmd) (f := 30) rfl z hz ?_)
  rw [decide_eq_false hz0, ask_pickF]
  refine a_if (fun h => by cases h) fun _ => ?_
  refine a_nf hP fdP1 ?_
  refine a_ldPrA [J d.m, J d.n] hP (kn0 X) aggPm szPm hA.row List.not_mem_nil rfl ?_
  refine n_W hX.n hS (T := Tmd) (f := 92) rfl ((d.m, d.n), y, z, ()) (fun w hw => ⟨⟨_, _, rfl, rfl, _, _, rfl, ⟨rfl, hy⟩, _, _, rfl, ⟨rfl, hz⟩, rfl⟩, ok.m0, ok.N⟩) fun v u1 W h1 kW s1 su1 hq => ?_
  obtain ⟨ys, st, rfl, oy, ot⟩ := hq
  dsimp only at oy ot
  rw [show d.m * d.n = d.N from rfl] at oy ot
  rw [ask_ext0, ask_ext1]
  have zu := h1.sz0
  have zW := s1.size
  have hU := su1.size
  have lo : ∀ q ∈ [b0, b1, b2], q < u1.heap.size := fun q hq => h1.low (by simpa [kb38_0] using hq)
  have stp : ∀ {w : World}, Kn X w → Stp [b] X.w0 w := fun hk => hk.stpM hX (by simp)
  have sep : ∀ v ∈ [P.sl, P.sr, P.vs, P.bits, P.lc, P.ld, P.rc, P.rd], ∀ q, v.ownBlock = some q → q ∉ [b] := fun v hv q hq hm => by
    simp only [List.mem_singleton] at hm
    exact hA.sep v hv (hm ▸ hq)
  have rbits : ∀ {w : World}, Kn X w → LsF w P.bits (mapN d.bit d.N) := fun hk => hA.bits.stp (stp hk) (sep _ (by simp))
  have rsr : ∀ {w : World}, Kn X w → LsS w P.sr d.t.2.2.2.2.2 := fun hk => hA.sr.stp (stp hk) (sep _ (by simp))
  have rsl : ∀ {w : World}, Kn X w → LsS w P.sl d.t.2.2.2.2.1 := fun hk => hA.sl.stp (stp hk) (sep _ (by simp))
  have rowW : W.heap[b]? = some (.cells (P.cells d).toArray 167 (0, 0)) := by rw [su1.past b hbl List.not_mem_nil]; exact hA.row
  refine a_nf hP fdP4 ?_
  refine a_ldPr (v := P.bits) hP kW aggLS rowW List.not_mem_nil rfl ?_
  refine a_len hP tySI (rbits kW).1 ?_
  rw [mapN_len]
  obtain ⟨q, eq⟩ : ∃ q : Md, q = ⟨d, rF y, rF z⟩ := ⟨_, rfl⟩
  have qd : q.d = d := by rw [eq]
  have qy : q.y = rF y := by rw [eq]
  have qz : q.z = rF z := by rw [eq]
  obtain ⟨fam, fam0, fam1, fam2⟩ : ∃ fam : Nat → Nat → F, fam 0 = q.l0 ∧ fam 1 = q.r0 ∧ fam 2 = q.r1 := ⟨fun j => match j with | 0 => q.l0 | 1 => q.r0 | _ => q.r1, rfl, rfl, rfl⟩
  obtain ⟨PB, ePB⟩ : ∃ PB : (Nat → Value) → Pr, PB = fun V => { P with lc := V 0, rc := V 1, rd := V 2 } := ⟨_, rfl⟩
  have hlen : ∀ j i, (mapN (fam j) i).length = i := fun j i => mapN_len _ _
  refine ⟨fun a w => ∃ (i : Nat) (V : Nat → Value) (U' : World), a = [J i] ∧ i ≤ d.N ∧ Kn X w ∧ Stp [b] W w ∧ U'.heap.size = W.heap.size ∧ MRows U' w 29 4 encF [b2, b1, b0, b] 3 V (fun j => mapN (fam j) i) ∧ w.heap[b]? = some (.cells ((PB V).cells d).toArray 167 (0, 0)), fun a _ => match a with | i :: _ => d.N - intNat i | _ => 0,
    fun w hw => ⟨0, fun _ => nl, W, rfl, Nat.zero_le _, hw.kn, ⟨hw.stp.size, fun q hq _ => hw.stp.past q hq List.not_mem_nil⟩, rfl, (MRows.nil W hw.stp encF _ 3 _ 4).congr fun j _ => rfl, by
      rw [hw.stp.past b (Nat.lt_of_lt_of_le hbl hU) List.not_mem_nil, rowW, ePB]
      cases P; simp only at hlc hrc hrd'; subst hlc hrc hrd'; rfl⟩, ?_⟩
  rintro _ w ⟨i, V, U', he, hi, hk, hsw, eU, hm, hrow⟩
  simp only [List.cons.injEq, and_true] at he
  subst he
  have zw := hsw.size
  have hbw : b < w.heap.size := by omega
  have hU' : X.w0.heap.size ≤ U'.heap.size := by omega
  rw [ask_lssN]
  refine a_ifD (fun hlt => ?_) fun hge => ?_
  · have oyw : ∀ {w' : World}, Stp [b] W w' → SlAt w' ys d.N ((mapN (fp (rF y)) d.N).flatMap encF) := fun hs => (own_slAt oy).stp hs fun g hg hmem => by
      have := (oy.lt g hg).1
      simp only [List.mem_singleton] at hmem; omega
    have otw : ∀ {w' : World}, Stp [b] W w' → SlAt w' st d.N ((mapN (wtF (rF z) d.m) d.N).flatMap encF) := fun hs => (own_slAt ot).stp hs fun g hg hmem => by
      have := (ot.lt g hg).1
      simp only [List.mem_singleton] at hmem; omega
    have gl : ∀ {f : Nat → F}, (mapN f d.N).length = d.N := mapN_len _ _
    refine ld_SF hP hk (rbits hk).1 rfl (by rw [gl]; exact hlt) (fun _ _ => List.not_mem_nil) ?_
    rw [mapN_get d.bit 0 hlt]
    rw [ask_zero4]; intro b3 hb3
    rw [ask_aggS]
    have nb3 : b ∉ [b3] := by simp only [List.mem_singleton]; omega
    have hnb : ∀ {w' : World}, b < w'.heap.size → ∀ q ∈ [b3, b2, b1, b0, b], q < w'.heap.size ∨ q ∈ [b0, b1, b2, b3] := fun h q hq => by
      simp only [List.mem_cons, List.not_mem_nil, or_false] at hq ⊢
      omega
    have hsub : ∀ q ∈ [b0, b1, b2, b3], q ∈ [b3, b2, b1, b0, b] := fun q hq => by
      simp only [List.mem_cons, List.not_mem_nil, or_false] at hq ⊢
      omega
    have hbb : b ∉ [b0, b1, b2, b3] := by
      simp only [List.mem_cons, List.not_mem_nil, or_false]
      omega
    have hW0 : X.w0.heap.size ≤ W.heap.size := hU
    have hmA := hm.more hb3
    have zzA := hbw
    have hswA := hsw
    have hrowA := hrow
    refine a_nf hP fdP5 (a_fadP hP fdL0 ?_)
    refine a_ldPr (v := V 0) hP hk aggLS hrow nb3 (by rw [ePB]; rfl) ?_
    refine call_PE hS (T := Tmd) (f := 48) rfl ((d.bit i).val, z) ⟨val_lt _, hz⟩ ?_
    dsimp only
    rw [rF_val, show d.bit i - rF z = fam 0 i by rw [fam0, eq]; rfl]
    refine n_pushR [fam 0 i] 1 rfl hX.n hP tySI rfl rfl (by decide) encF_len hmA (i := 0) (by decide) rfl (by omega) (hnb (by have := zzA; omega)) hsub (fun q hq => ⟨by simp at hq; simp [hq], by simp at hq; subst hq; omega⟩) (by decide) (by decide) (by kernel_rfl) (by simp [one_encF]) (by show (mapN (fam 0) i).length + 1 ≤ _; rw [hlen]; unfold maxLen; omega) (by show ((mapN (fam 0) i).length + 1) * 32 ≤ _; rw [hlen]; omega) fun v0 wB kB sB hmB => ?_
    have zB := sB.size
    have hv0 : v0.cells = [v0].toArray ∧ v0.oneCell' = true := by
      have h1 : SlAt wB v0 _ _ := own_slAt (hmB.row 0 (by decide))
      obtain ⟨_, _, rfl, _⟩ := slAt_form h1
      exact ⟨rfl, rfl⟩
    have hswB : Stp [b] W wB := Stp.dropR (hswA.trans sB) fun q hq => by
      rcases List.mem_append.1 hq with h | h
      · simp only [List.mem_singleton] at h; omega
      · have := ((hmA.row 0 (by decide)).lt q (Option.mem_toList.1 h)).1
        omega
    have hrowB : wB.heap[b]? = some (.cells ((PB V).cells d).toArray 167 (0, 0)) := by
      rw [sB.past b (by omega) fun hq => by
        rcases List.mem_append.1 hq with h | h
        · exact nb3 h
        · exact hmA.off 0 (by decide) b (Option.mem_toList.1 h) (by simp)]
      exact hrowA
    refine a_nf hP fdP5 (a_fadP hP fdL0 ?_)
    refine a_stPr (P := PB V) (P' := PB (upd V 0 v0)) [v0] hX.n hP szLS1 rfl rfl hv0.1 rfl (by simp [hv0.2]) hrowB List.not_mem_nil hmine hbb (by decide) (by rw [ePB]; rfl) fun _ wC kC sC hrowC => ?_
    have zC := sC.size
    have sC : Stp [b] wB wC := by simpa using sC
    obtain ⟨UC, eUC, hmC⟩ := hmB.setb (b := b) (by simp) sC
    have hswC : Stp [b] W wC := (by simpa using hswB.trans sC : Stp [b, b] W wC) |> fun h => ⟨h.size, fun q hq hn => h.past q hq (by simpa using hn)⟩
    have zzC : b < wC.heap.size := by omega
    refine a_nf hP fdP6 (a_fadP hP fdL0 ?_)
    refine a_ldPr (v := V 1) hP kC aggLS hrowC List.not_mem_nil (by rw [ePB]; rfl) ?_
    refine ld_SF hP kC (oyw hswC) gl (by rw [gl]; exact hlt) (fun _ _ => List.not_mem_nil) ?_
    rw [mapN_get _ 0 hlt]
    refine call_PE hS (T := Tmd) (f := 28) rfl 1 (by decide) ?_
    refine call_PE hS (T := Tmd) (f := 48) rfl ((d.bit i).val, 1) ⟨val_lt _, show 1 < W256 by decide⟩ ?_
    dsimp only
    refine call_PE hS (T := Tmd) (f := 29) rfl (_, z) ⟨val_lt _, hz⟩ ?_
    dsimp only
    refine call_PE hS (T := Tmd) (f := 49) rfl (_, _) ⟨val_lt _, val_lt _⟩ ?_
    dsimp only
    refine ld_SF hP kC (otw hswC) gl (by rw [gl]; exact hlt) (fun _ _ => List.not_mem_nil) ?_
    rw [mapN_get _ 0 hlt]
    refine call_PE hS (T := Tmd) (f := 29) rfl (_, _) ⟨val_lt _, val_lt _⟩ ?_
    dsimp only
    rw [rF_val, rF_val, rF_val, rF_val, rF_val, rF_val, rF_one, show fp (rF y) i * (d.bit i - 1 + rF z) + wtF (rF z) d.m i = fam 1 i by rw [fam1, eq]; rfl]
    refine n_pushR [fam 1 i] 1 rfl hX.n hP tySI rfl rfl (by decide) encF_len hmC (i := 1) (by decide) rfl (by omega) (hnb (by have := zzC; omega)) hsub (fun q hq => by cases hq) (by decide) (by decide) (by kernel_rfl) (by simp [one_encF]) (by show (mapN (fam 1) i).length + 1 ≤ _; rw [hlen]; unfold maxLen; omega) (by show ((mapN (fam 1) i).length + 1) * 32 ≤ _; rw [hlen]; omega) fun v1 wD kD sD hmD => ?_
    have zD := sD.size
    have hv1 : v1.cells = [v1].toArray ∧ v1.oneCell' = true := by
      have h1 : SlAt wD v1 _ _ := own_slAt (hmD.row 1 (by decide))
      obtain ⟨_, _, rfl, _⟩ := slAt_form h1
      exact ⟨rfl, rfl⟩
    have hswD : Stp [b] W wD := Stp.dropR (hswC.trans sD) fun q hq => by
      rcases List.mem_append.1 hq with h | h
      · cases h
      · have := ((hmC.row 1 (by decide)).lt q (Option.mem_toList.1 h)).1
        omega
    have hrowD : wD.heap[b]? = some (.cells ((PB (upd V 0 v0)).cells d).toArray 167 (0, 0)) := by
      rw [sD.past b (by omega) fun hq => by
        rcases List.mem_append.1 hq with h | h
        · cases h
        · exact hmC.off 1 (by decide) b (Option.mem_toList.1 h) (by simp)]
      exact hrowC
    refine a_nf hP fdP6 (a_fadP hP fdL0 ?_)
    refine a_stPr (P := PB (upd V 0 v0)) (P' := PB (upd (upd V 0 v0) 1 v1)) [v1] hX.n hP szLS1 rfl rfl hv1.1 rfl (by simp [hv1.2]) hrowD List.not_mem_nil hmine hbb (by decide) (by rw [ePB]; rfl) fun _ wE kE sE hrowE => ?_
    have zE := sE.size
    have sE : Stp [b] wD wE := by simpa using sE
    obtain ⟨UE, eUE, hmE⟩ := hmD.setb (b := b) (by simp) sE
    have hswE : Stp [b] W wE := (by simpa using hswD.trans sE : Stp [b, b] W wE) |> fun h => ⟨h.size, fun q hq hn => h.past q hq (by simpa using hn)⟩
    have zzE : b < wE.heap.size := by omega
    refine a_nf hP fdP6 (a_fadP hP fdL1 ?_)
    refine a_ldPr (v := V 2) hP kE aggLS hrowE List.not_mem_nil (by rw [ePB]; rfl) ?_
    refine ld_SF hP kE (oyw hswE) gl (by rw [gl]; exact hlt) (fun _ _ => List.not_mem_nil) ?_
    rw [mapN_get _ 0 hlt]
    refine a_nf hP fdP2 (a_fadP hP fdT5 ?_)
    refine a_ldPr (v := P.sr) hP kE aggLS hrowE List.not_mem_nil (by rw [ePB]; rfl) ?_
    refine ld_SN hP kE (rsr kE).1 rfl (by omega) (fun _ _ => List.not_mem_nil) ?_
    obtain ⟨sv, esv⟩ : ∃ sv, sv = d.t.2.2.2.2.2.getD i 0 := ⟨_, rfl⟩
    have hsv : sv < W256 := esv ▸ getD_okSj (rsr kE).2 i
    rw [← esv]
    refine call_PE hS (T := Tmd) (f := 49) rfl (_, sv) ⟨val_lt _, hsv⟩ ?_
    dsimp only
    rw [rF_val, show fp (rF y) i * rF sv = fam 2 i by rw [fam2, eq, esv]; rfl]
    refine n_pushR [fam 2 i] 1 rfl hX.n hP tySI rfl rfl (by decide) encF_len hmE (i := 2) (by decide) rfl (by omega) (hnb (by have := zzE; omega)) hsub (fun q hq => by cases hq) (by decide) (by decide) (by kernel_rfl) (by simp [one_encF]) (by show (mapN (fam 2) i).length + 1 ≤ _; rw [hlen]; unfold maxLen; omega) (by show ((mapN (fam 2) i).length + 1) * 32 ≤ _; rw [hlen]; omega) fun v2 wG kG sG hmG => ?_
    have zG := sG.size
    have hv2 : v2.cells = [v2].toArray ∧ v2.oneCell' = true := by
      have h1 : SlAt wG v2 _ _ := own_slAt (hmG.row 2 (by decide))
      obtain ⟨_, _, rfl, _⟩ := slAt_form h1
      exact ⟨rfl, rfl⟩
    have hswG : Stp [b] W wG := Stp.dropR (hswE.trans sG) fun q hq => by
      rcases List.mem_append.1 hq with h | h
      · cases h
      · have := ((hmE.row 2 (by decide)).lt q (Option.mem_toList.1 h)).1
        omega
    have hrowG : wG.heap[b]? = some (.cells ((PB (upd (upd V 0 v0) 1 v1)).cells d).toArray 167 (0, 0)) := by
      rw [sG.past b (by omega) fun hq => by
        rcases List.mem_append.1 hq with h | h
        · cases h
        · exact hmE.off 2 (by decide) b (Option.mem_toList.1 h) (by simp)]
      exact hrowE
    refine a_nf hP fdP6 (a_fadP hP fdL1 ?_)
    refine a_stPr (P := PB (upd (upd V 0 v0) 1 v1)) (P' := PB (upd (upd (upd V 0 v0) 1 v1) 2 v2)) [v2] hX.n hP szLS1 rfl rfl hv2.1 rfl (by simp [hv2.2]) hrowG List.not_mem_nil hmine hbb (by decide) (by rw [ePB]; rfl) fun _ wH kH sH hrowH => ?_
    have zH := sH.size
    have sH : Stp [b] wG wH := by simpa using sH
    obtain ⟨UH, eUH, hmH⟩ := hmG.setb (b := b) (by simp) sH
    have hswH : Stp [b] W wH := (by simpa using hswG.trans sH : Stp [b, b] W wH) |> fun h => ⟨h.size, fun q hq hn => h.past q hq (by simpa using hn)⟩
    have zzH : b < wH.heap.size := by omega
    rw [ask_succ (by omega)]
    intro w9 hw9
    have hs9 : Stp [] wH w9 := hw9.stp
    refine ⟨⟨i + 1, upd (upd (upd V 0 v0) 1 v1) 2 v2, UH, rfl, hlt, hw9.kn, (by simpa using hswH.trans hs9), by omega, ((hmH.stp hs9).less (fun b hb => List.mem_cons_of_mem _ hb)).congr (fun j hj => ?_), by rw [hs9.past b zzH List.not_mem_nil]; exact hrowH⟩, by simp [intNat]; omega⟩
    match j, hj with
    | 0, _ => exact (mapN_succ _ _).symm
    | 1, _ => exact (mapN_succ _ _).symm
    | 2, _ => exact (mapN_succ _ _).symm
  obtain rfl : i = d.N := by omega
  have ra : ∀ j, j < 3 → LsF w (V j) (mapN (fam j) d.N) := fun j hj => by
    have h1 : w.ownsRow U'.heap.size 29 4 (V j) (mapN (fam j) d.N).length ((mapN (fam j) d.N).flatMap encF) := hm.row j hj
    rw [mapN_len] at h1
    exact own_F h1
  have sepV : ∀ j, j < 3 → ∀ q, (V j).ownBlock = some q → q ∉ [b] := fun j hj q hq hmem => hm.off j hj q hq (by
    simp only [List.mem_singleton] at hmem
    simp [hmem])
  have hsepV : ∀ j, j < 3 → (V j).ownBlock ≠ some b := fun j hj hq => sepV j hj b hq (by simp)
  have sepsl := sep P.sl (by simp)
  have hbb : b ∉ [b0, b1, b2] := by
    simp only [List.mem_cons, List.not_mem_nil, or_false]
    omega
  obtain ⟨sa, sc, esl⟩ := slAt_form hA.sl.1
  refine a_nf hP fdP2 (a_fadP hP fdT4 ?_)
  refine a_ldPr (v := P.sl) hP hk aggLS hrow List.not_mem_nil (by rw [ePB]; rfl) ?_
  refine a_nf hP fdP5 (a_fadP hP fdL1 ?_)
  obtain ⟨P1, eP1⟩ : ∃ P1 : Pr, P1 = { PB V with ld := P.sl } := ⟨_, rfl⟩
  refine a_stPr (P := PB V) (P' := P1) [P.sl] hX.n hP szLS1 rfl rfl (by rw [esl.1]; rfl) rfl (by rw [esl.1]; rfl) hrow List.not_mem_nil hmine hbb (by decide) (by rw [eP1, ePB]; rfl) fun _ w1 k1 s1 hrow1 => ?_
  have s1 : Stp [b] w w1 := by simpa using s1
  have z1 := s1.size
  have rb : ∀ {wq : World}, Stp [b] w wq → ∀ j, j < 3 → LsF wq (V j) (mapN (fam j) d.N) := fun hs j hj => (ra j hj).stp hs (sepV j hj)
  refine a_nf hP fdP5 (a_fadP hP fdL0 ?_)
  refine a_ldPr (v := V 0) hP k1 aggLS hrow1 List.not_mem_nil (by rw [eP1, ePB]; rfl) ?_
  refine a_nf hP fdP6 (a_fadP hP fdL1 ?_)
  refine a_ldPr (v := V 2) hP k1 aggLS hrow1 List.not_mem_nil (by rw [eP1, ePB]; rfl) ?_
  have lm : ∀ f : Nat → F, ((mapN f d.N).map (fun x : F => x.val)).length = d.N := fun f => by rw [List.length_map, mapN_len]
  have setAt : ∀ {wq : World}, Kn X wq → SetV' wq c d.p := fun hk => by
    obtain ⟨g, h, a1, a2, a3, a4, a5⟩ := hA.set
    have hs := stp hk
    have nq : ∀ {v : Value}, v.ownBlock ≠ some b → ∀ q, v.ownBlock = some q → q ∉ [b] := fun h q hq hm => by
      simp only [List.mem_singleton] at hm
      exact h (hm ▸ hq)
    exact ⟨hA.okp, g, h, _, by rw [hs.past c (Array.getElem?_eq_some_iff.1 a1).1 (by simpa using hA.cb)]; exact a1, a2.stp hs (nq a4), a3.stp hs (nq a5)⟩
  refine n_W hX.n hS (T := Tmd) (f := 67) rfl ((mapN (fam 0) d.N).map (fun x : F => x.val), (mapN (fam 2) d.N).map (fun x : F => x.val), ()) (fun wq hw => ⟨⟨_, _, rfl, lsF_toS ((rb s1 0 (by decide)).stp0 hw.stp), _, _, rfl, lsF_toS ((rb s1 2 (by decide)).stp0 hw.stp), rfl⟩, (lm _).trans (lm _).symm⟩) fun v u2 w2 h2 k2 s2 su2 hq => ?_
  dsimp only at hq
  rw [lm, prF_mm, fam0, fam2] at hq
  subst hq
  rw [ask_ext0, ask_ext1, ask_zero4]; intro b3 hb3
  rw [ask_aggS]
  have z2 := su2.size
  have s2' : Stp [b] w w2 := by simpa using s1.trans su2
  have hrow2 : w2.heap[b]? = _ := (su2.past b (by omega) List.not_mem_nil).trans hrow1
  have nb3 : b ∉ [b3] := by simp only [List.mem_singleton]; omega
  have offq : ∀ {wq : World} {v : Value} {l : List Nat} {q : Nat}, LsS wq v l → l.length = d.N → wq.heap.size ≤ q → ∀ g, v.ownBlock = some g → g ∉ [q] := fun hs hl hq => slAt_off hs.1 (by rw [flat_len encS_len]; omega) (by simpa using hq)
  refine a_nf hP fdP5 (a_fadP hP fdL1 ?_)
  refine a_ldPr (v := P.sl) hP k2 aggLS hrow2 nb3 (by rw [eP1, ePB]; rfl) ?_
  refine a_nf hP fdP6 (a_fadP hP fdL0 ?_)
  refine a_ldPr (v := V 1) hP k2 aggLS hrow2 nb3 (by rw [eP1, ePB]; rfl) ?_
  refine n_W hX.n hS (T := Tmd) (f := 67) rfl (d.t.2.2.2.2.1, (mapN (fam 1) d.N).map (fun x : F => x.val), ()) (fun wq hw => ⟨⟨_, _, rfl, (rsl k2).stp hw.stp (offq (rsl k1) lsl (by omega)), _, _, rfl, (lsF_toS (rb s2' 1 (by decide))).stp hw.stp (offq (lsF_toS (rb s1 1 (by decide))) (lm _) (by omega)), rfl⟩, lsl.trans (lm _).symm⟩) fun v u3 w3 h3 k3 s3 su3 hq => ?_
  dsimp only at hq
  rw [lsl, prF_nm, fam1] at hq
  subst hq
  rw [ask_ext0, ask_ext1, ask_zero4]; intro b4 hb4
  rw [ask_aggS]
  have z3 := su3.size
  have s3' : Stp [b] w w3 := Stp.dropR (s2'.trans su3) (by simp; omega)
  have hrow3 : w3.heap[b]? = _ := (su3.past b (by omega) nb3).trans hrow2
  have nb4 : b ∉ [b4] := by simp only [List.mem_singleton]; omega
  refine a_nf hP fdP5 (a_fadP hP fdL1 ?_)
  refine a_ldPr (v := P.sl) hP k3 aggLS hrow3 nb4 (by rw [eP1, ePB]; rfl) ?_
  refine a_nf hP fdP6 (a_fadP hP fdL1 ?_)
  refine a_ldPr (v := V 2) hP k3 aggLS hrow3 nb4 (by rw [eP1, ePB]; rfl) ?_
  refine n_W hX.n hS (T := Tmd) (f := 67) rfl (d.t.2.2.2.2.1, (mapN (fam 2) d.N).map (fun x : F => x.val), ()) (fun wq hw => ⟨⟨_, _, rfl, (rsl k3).stp hw.stp (offq (rsl k2) lsl (by omega)), _, _, rfl, (lsF_toS (rb s3' 2 (by decide))).stp hw.stp (offq (lsF_toS (rb s2' 2 (by decide))) (lm _) (by omega)), rfl⟩, lsl.trans (lm _).symm⟩) fun v u4 w4 h4 k4 s4 su4 hq => ?_
  dsimp only at hq
  rw [lsl, prF_nm, fam2] at hq
  subst hq
  rw [ask_ext0, ask_ext1, ask_zero4]; intro b5 hb5
  rw [ask_aggS]
  have z4 := su4.size
  have s4' : Stp [b] w w4 := Stp.dropR (s3'.trans su4) (by simp; omega)
  have hrow4 : w4.heap[b]? = _ := (su4.past b (by omega) nb4).trans hrow3
  have nb5 : b ∉ [b5] := by simp only [List.mem_singleton]; omega
  have hb4' : b ∉ [b0, b1, b2, b3, b4, b5] := by
    simp only [List.mem_cons, List.not_mem_nil, or_false]
    omega
  refine a_nf hP fdP8 ?_
  refine a_ldPr (v := P.cm) hP k4 aggFn hrow4 nb5 (by rw [eP1, ePB]; rfl) ?_
  refine call_PE hS (T := Tmd) (f := 29) rfl (_, _) ⟨val_lt _, val_lt _⟩ ?_
  dsimp only
  rw [rF_val, rF_val, show sumF' (fun i => q.l0 i * q.r1 i) d.N + sumF' (fun i => rF (d.t.2.2.2.2.1.getD i 0) * q.r0 i) d.N = q.t1 by rw [Md.t1, qd]; simp only [Md.sl, qd]]
  refine a_nf hP fdP2 (a_fadP hP fdT2 ?_)
  refine a_ldPrA (encS d.t.2.2.1) hP k4 aggS szS hrow4 nb5 (by rw [eP1, ePB]; rfl) ?_
  refine n_V hX.n hS hA.cm (fun args w => by rw [hP]; exact enters_of (by kernel_rfl) args w) (T := Tmd) (f := 89) rfl (q.t1.val, d.t.2.2.1, d.p, ()) (fun wq hw => ⟨⟨_, _, rfl, ⟨rfl, val_lt _⟩, _, _, rfl, ⟨rfl, hA.okt.2.2.1⟩, _, _, rfl, ⟨c, rfl, setAt hw.kn⟩, rfl⟩, trivial⟩) fun v u5 w5 h5 k5 s5 su5 hq => ?_
  dsimp only at hq
  rw [rF_val, show q.t1 * rF d.p.1 + rF d.t.2.2.1 * rF d.p.2.1 = q.T1 by rw [Md.T1, qd]] at hq
  subst hq
  have z5 := su5.size
  have s5' : Stp [b] w w5 := Stp.dropR (s4'.trans su5) (by simp; omega)
  have hrow5 : w5.heap[b]? = _ := (su5.past b (by omega) nb5).trans hrow4
  refine a_nf hP fdP7 (a_fadP hP fdV2 ?_)
  obtain ⟨P2, eP2⟩ : ∃ P2 : Pr, P2 = { P1 with T1 := q.T1 } := ⟨_, rfl⟩
  refine a_stPr (P := P1) (P' := P2) (encF q.T1) hX.n hP szL rfl rfl rfl rfl (one_encF _) hrow5 List.not_mem_nil hmine hb4' (by decide) (by rw [eP2]; rfl) fun _ w6 k6 s6 hrow6 => ?_
  have z6 := s6.size
  refine a_nf hP fdP8 ?_
  refine a_ldPr (v := P.cm) hP k6 aggFn hrow6 List.not_mem_nil (by rw [eP2, eP1, ePB]; rfl) ?_
  refine a_nf hP fdP2 (a_fadP hP fdT3 ?_)
  refine a_ldPrA (encS d.t.2.2.2.1) hP k6 aggS szS hrow6 List.not_mem_nil (by rw [eP2, eP1, ePB]; rfl) ?_
  rw [show sumF' (fun i => rF (d.t.2.2.2.2.1.getD i 0) * q.r1 i) d.N = q.t2 by rw [Md.t2, qd]; simp only [Md.sl, qd]]
  refine n_V hX.n hS hA.cm (fun args w => by rw [hP]; exact enters_of (by kernel_rfl) args w) (T := Tmd) (f := 89) rfl (q.t2.val, d.t.2.2.2.1, d.p, ()) (fun wq hw => ⟨⟨_, _, rfl, ⟨rfl, val_lt _⟩, _, _, rfl, ⟨rfl, hA.okt.2.2.2⟩, _, _, rfl, ⟨c, rfl, setAt hw.kn⟩, rfl⟩, trivial⟩) fun v u7 w7 h7 k7 s7 su7 hq => ?_
  dsimp only at hq
  rw [rF_val, show q.t2 * rF d.p.1 + rF d.t.2.2.2.1 * rF d.p.2.1 = q.T2 by rw [Md.T2, qd]] at hq
  subst hq
  have z7 := su7.size
  have hrow7 : w7.heap[b]? = _ := (su7.past b (by omega) List.not_mem_nil).trans hrow6
  refine a_nf hP fdP7 (a_fadP hP fdV3 ?_)
  obtain ⟨P3, eP3⟩ : ∃ P3 : Pr, P3 = { P2 with T2 := q.T2 } := ⟨_, rfl⟩
  refine a_stPr (P := P2) (P' := P3) (encF q.T2) hX.n hP szL rfl rfl rfl rfl (one_encF _) hrow7 List.not_mem_nil hmine hb4' (by decide) (by rw [eP3]; rfl) fun _ w8 k8 s8 hrow8 => ?_
  have z8 := s8.size
  refine call_PE hS (T := Tmd) (f := 71) rfl y hy ?_
  refine call_PE hS (T := Tmd) (f := 71) rfl z hz ?_
  refine a_nf hP fdP7 (a_fadP hP fdV4 ?_)
  obtain ⟨P4, eP4⟩ : ∃ P4 : Pr, P4 = { P3 with y := rF y } := ⟨_, rfl⟩
  refine a_stPr (P := P3) (P' := P4) (encF (rF y)) hX.n hP szS rfl rfl rfl rfl (one_encF _) hrow8 List.not_mem_nil hmine hb4' (by decide) (by rw [eP4]; rfl) fun _ w9 k9 s9 hrow9 => ?_
  have z9 := s9.size
  refine a_nf hP fdP7 (a_fadP hP fdV5 ?_)
  obtain ⟨P5, eP5⟩ : ∃ P5 : Pr, P5 = { P4 with z := rF z } := ⟨_, rfl⟩
  refine a_stPr (P := P4) (P' := P5) (encF (rF z)) hX.n hP szS rfl rfl rfl rfl (one_encF _) hrow9 List.not_mem_nil hmine hb4' (by decide) (by rw [eP5]; rfl) fun _ w10 k10 s10 hrow10 => ?_
  have z10 := s10.size
  refine a_nf hP fdP0 ?_
  obtain ⟨P6, eP6⟩ : ∃ P6 : Pr, P6 = { P5 with ph := 2 } := ⟨_, rfl⟩
  refine a_stPr (P := P5) (P' := P6) [J 2] hX.n hP szIn1 rfl rfl rfl rfl rfl hrow10 List.not_mem_nil hmine hb4' (by decide) (by rw [eP6]; rfl) fun _ w11 k11 s11 hrow11 => ?_
  have z11 := s11.size
  refine a_nf hP fdP7 ?_
  refine a_ldPrA (vwL P.A P.S q.T1 q.T2 (rF y) (rF z) 0 0 0 0 nl nl) hP k11 aggVw szVw hrow11 List.not_mem_nil (by rw [eP6, eP5, eP4, eP3, eP2, eP1, ePB]; rfl) ?_
  refine a_agg (vwL_len _ _ _ _ _ _ _ _ _ _ _ _) (vwL_one rfl rfl) ?_
  have s11' : Stp [b] w w11 := by
    have h1 := ((((((s5'.trans s6).trans su7).trans s8).trans s9).trans s10).trans s11)
    exact ⟨h1.size, fun q hq hn => h1.past q hq (by simpa using hn)⟩
  refine hR _ _ _ _ fun wf hwf y' z' ess => ?_
  simp only [List.cons.injEq, and_true] at ess
  obtain ⟨rfl, rfl⟩ := ess
  have hs2 : Stp [b2] w11 wf := hwf.stp
  have kf := hwf.kn
  have lob2 : b2 < w.heap.size := by have := lo b2 (by simp); omega
  have rf' : ∀ j, j < 3 → LsF wf (V j) (mapN (fam j) d.N) := fun j hj => (rb s11' j hj).stp hs2 fun q hq hmem => hm.off j hj q hq (by
    simp only [List.mem_singleton] at hmem
    simp [hmem])
  rw [← eq]
  have e6 : P6.sl = P.sl ∧ P6.sr = P.sr ∧ P6.vs = P.vs ∧ P6.bits = P.bits ∧ P6.lc = V 0 ∧ P6.ld = P.sl ∧ P6.rc = V 1 ∧ P6.rd = V 2 ∧ P6.cm = P.cm ∧ P6.ph = 2 ∧ P6.A = P.A ∧ P6.S = P.S ∧ P6.T1 = q.T1 ∧ P6.T2 = q.T2 ∧ P6.y = rF y ∧ P6.z = rF z := by
    rw [eP6, eP5, eP4, eP3, eP2, eP1, ePB]
    exact ⟨rfl, rfl, rfl, rfl, rfl, rfl, rfl, rfl, rfl, rfl, rfl, rfl, rfl, rfl, rfl, rfl⟩
  obtain ⟨i1, i2, i3, i4, i5, i6, i7, i8, i9, i10, i11, i12, i13, i14, i15, i16⟩ := e6
  have hso := stp kf
  obtain ⟨g, h, a1, a2, a3, a4, a5⟩ := hA.set
  have nq : ∀ {v : Value}, v.ownBlock ≠ some b → ∀ q, v.ownBlock = some q → q ∉ [b] := fun h q hq hm => by
    simp only [List.mem_singleton] at hm
    exact h (hm ▸ hq)
  refine ⟨P6, rfl, ⟨hA.pos, hA.cb, ?_, i9.trans hA.cm, hA.okp, hA.okt, ⟨g, h, by rw [hso.past c (Array.getElem?_eq_some_iff.1 a1).1 (by simpa using hA.cb)]; exact a1, a2.stp hso (nq a4), a3.stp hso (nq a5), a4, a5⟩, i1 ▸ rsl kf, i2 ▸ rsr kf, i3 ▸ hA.vs.stp hso (sep _ (by simp)), i4 ▸ rbits kf, ?_, i6 ▸ rsl kf, ?_, ?_, ?_⟩, i10, i11, i12, i13, i14, i15, i16⟩
  · rw [hs2.past b (by omega) (by simp only [List.mem_singleton]; omega)]; exact hrow11
  · rw [i5, ← fam0]; exact rf' 0 (by decide)
  · rw [i7, ← fam1]; exact rf' 1 (by decide)
  · rw [i8, ← fam2]; exact rf' 2 (by decide)
  · rw [i1, i2, i3, i4, i5, i6, i7, i8]
    intro v hv
    simp only [List.mem_cons, List.not_mem_nil, or_false] at hv
    rcases hv with rfl | rfl | rfl | rfl | rfl | rfl | rfl | rfl
    · exact hA.sep _ (by simp)
    · exact hA.sep _ (by simp)
    · exact hA.sep _ (by simp)
    · exact hA.sep _ (by simp)
    · exact hsepV 0 (by decide)
    · exact hA.sep _ (by simp)
    · exact hsepV 1 (by decide)
    · exact hsepV 2 (by decide)
#print axioms keepsMid
end Go.Vc
