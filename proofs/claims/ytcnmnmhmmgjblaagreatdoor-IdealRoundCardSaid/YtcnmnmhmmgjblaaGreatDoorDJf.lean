/-
  The prover begins.
-/
import Derived.Test.YtcnmnmhmmgjblaaGreatDoorDJe
namespace Go.Vc
open Go Go.Proofs Go.RowKit
/-- A view: its elements' logs, its scalars, its lists. -/
def vwL (A S T1 T2 y z x tx mu th : F) (l r : Value) : List Value := encF A ++ encF S ++ encF T1 ++ encF T2 ++ encF y ++ encF z ++ encF x ++ encF tx ++ encF mu ++ encF th ++ [l, r]
theorem vwL_len (A S T1 T2 y z x tx mu th : F) (l r : Value) : (vwL A S T1 T2 y z x tx mu th l r).length = 42 := rfl
theorem vwL_one {A S T1 T2 y z x tx mu th : F} {l r : Value} (hl : l.oneCell' = true) (hr : r.oneCell' = true) : (vwL A S T1 T2 y z x tx mu th l r).all (·.oneCell') = true := by
  simp only [vwL, List.all_append, one_encF, List.all_cons, List.all_nil, hl, hr, Bool.and_true]
/-- A prover's cells. -/
structure Pr where
  ph : Nat
  sl : Value
  sr : Value
  vs : Value
  bits : Value
  lc : Value
  ld : Value
  rc : Value
  rd : Value
  A : F
  S : F
  T1 : F
  T2 : F
  y : F
  z : F
  cm : Value
def Pr.cells (P : Pr) (d : Pq) : List Value := [J P.ph, J d.m, J d.n] ++ tpN d.t P.sl P.sr ++ [P.vs, P.bits, P.lc, P.ld, P.rc, P.rd] ++ vwL P.A P.S P.T1 P.T2 P.y P.z 0 0 0 0 (.slice none 0 0) (.slice none 0 0) ++ [P.cm]
theorem Pr.cells_len (P : Pr) (d : Pq) : (P.cells d).length = 70 := rfl
abbrev nl : Value := .slice none 0 0
abbrev Fcm (c : Nat) : Value := .func (.func 89) #[] #[Pt c]
/-- A prover in memory: its block b, the block c of the set that it commits with. -/
structure PrAt (w : World) (b c : Nat) (P : Pr) (d : Pq) (Lc : List F) (Ld : List Nat) (Rc Rd : List F) : Prop where
  pos : 0 < b
  cb : c ≠ b
  row : w.heap[b]? = some (.cells (P.cells d).toArray 167 (0, 0))
  cm : P.cm = Fcm c
  okp : okSet d.p
  okt : okTp d.t
  set : ∃ g h, w.heap[c]? = some (.cells (setL d.p g h).toArray 42 (0, 0)) ∧ LsS w g d.p.2.2.2.1 ∧ LsS w h d.p.2.2.2.2 ∧ g.ownBlock ≠ some b ∧ h.ownBlock ≠ some b
  sl : LsS w P.sl d.t.2.2.2.2.1
  sr : LsS w P.sr d.t.2.2.2.2.2
  vs : LsO w P.vs d.vs
  bits : LsF w P.bits (mapN d.bit d.N)
  lc : LsF w P.lc Lc
  ld : LsS w P.ld Ld
  rc : LsF w P.rc Rc
  rd : LsF w P.rd Rd
  sep : ∀ v ∈ [P.sl, P.sr, P.vs, P.bits, P.lc, P.ld, P.rc, P.rd], v.ownBlock ≠ some b
def ann37 : Ann := ⟨[(8, ([14, 42], [])), (14, ([17, 62], [4]))], [28, 48, 23], 70, [(87, false), (91, false), (88, false)], [19], some false, [], []⟩
def kb37_0 (b0 b1 b2 b3 : Nat) (x7 x8 x9 x10 x11 x12 x13 x14 x15 x16 x17 x18 x19 x20 x1 x2 x21 : Value) : List KB := [⟨b0, true, 42, #[x7, x8, x9, x10, x11, x12, x13, x14, x15, x16, x17, x18, x19, x20]⟩, ⟨b1, true, 45, #[x1, x2]⟩, ⟨b2, true, 36, (aggArr x21)⟩, ⟨b3, true, 83, #[(U 0), (U 0), (U 0), (U 0), (U 0), (U 0), (U 0), (U 0), (U 0), (U 0), (U 0), (U 0), (U 0), (U 0), (U 0), (U 0), (U 0), (U 0), (U 0), (U 0), (U 0), (U 0), (U 0), (U 0), (U 0), (U 0), (U 0), (U 0), (U 0), (U 0), (U 0), (U 0), (U 0), (U 0), (U 0), (U 0), (U 0), (U 0), (U 0), (U 0), (.slice none 0 0), (.slice none 0 0)]⟩]
def kb37_1 (b0 b1 b2 b3 b4 : Nat) (x7 x8 x9 x10 x11 x12 x13 x14 x15 x16 x17 x18 x19 x20 x1 x2 x21 x29 : Value) : List KB := [⟨b0, true, 42, #[x7, x8, x9, x10, x11, x12, x13, x14, x15, x16, x17, x18, x19, x20]⟩, ⟨b1, true, 45, #[x1, x2]⟩, ⟨b2, true, 36, (aggArr x21)⟩, ⟨b3, true, 83, #[(U 0), (U 0), (U 0), (U 0), (U 0), (U 0), (U 0), (U 0), (U 0), (U 0), (U 0), (U 0), (U 0), (U 0), (U 0), (U 0), (U 0), (U 0), (U 0), (U 0), (U 0), (U 0), (U 0), (U 0), (U 0), (U 0), (U 0), (U 0), (U 0), (U 0), (U 0), (U 0), (U 0), (U 0), (U 0), (U 0), (U 0), (U 0), (U 0), (U 0), (.slice none 0 0), (.slice none 0 0)]⟩, ⟨b4, true, 167, (aggArr x29)⟩]
def kb37_2 (b0 b1 b2 b3 b4 b5 : Nat) (x7 x8 x9 x10 x11 x12 x13 x14 x15 x16 x17 x18 x19 x20 x1 x2 x21 x29 x38 x39 x40 x41 x42 : Value) : List KB := [⟨b0, true, 42, #[x7, x8, x9, x10, x11, x12, x13, x14, x15, x16, x17, x18, x19, x20]⟩, ⟨b1, true, 45, #[x1, x2]⟩, ⟨b2, true, 36, (aggArr x21)⟩, ⟨b3, true, 83, #[(U 0), (U 0), (U 0), (U 0), (U 0), (U 0), (U 0), (U 0), (U 0), (U 0), (U 0), (U 0), (U 0), (U 0), (U 0), (U 0), (U 0), (U 0), (U 0), (U 0), (U 0), (U 0), (U 0), (U 0), (U 0), (U 0), (U 0), (U 0), (U 0), (U 0), (U 0), (U 0), (U 0), (U 0), (U 0), (U 0), (U 0), (U 0), (U 0), (U 0), (.slice none 0 0), (.slice none 0 0)]⟩, ⟨b4, true, 167, (aggArr x29)⟩, ⟨b5, true, 116, #[x38, x39, x40, x41, x42]⟩]
def kb37_3 (b0 b1 b2 b3 b4 b5 : Nat) (x7 x8 x9 x10 x11 x12 x13 x14 x15 x16 x17 x18 x19 x20 x1 x2 x21 x38 x50 : Value) : List KB := [⟨b0, true, 42, #[x7, x8, x9, x10, x11, x12, x13, x14, x15, x16, x17, x18, x19, x20]⟩, ⟨b1, true, 45, #[x1, x2]⟩, ⟨b2, true, 36, (aggArr x21)⟩, ⟨b3, true, 83, #[(U 0), (U 0), (U 0), (U 0), (U 0), (U 0), (U 0), (U 0), (U 0), (U 0), (U 0), (U 0), (U 0), (U 0), (U 0), (U 0), (U 0), (U 0), (U 0), (U 0), (U 0), (U 0), (U 0), (U 0), (U 0), (U 0), (U 0), (U 0), (U 0), (U 0), (U 0), (U 0), (U 0), (U 0), (U 0), (U 0), (U 0), (U 0), (U 0), (U 0), (.slice none 0 0), (.slice none 0 0)]⟩, ⟨b4, true, 167, (aggArr x38)⟩, ⟨b5, true, 29, (aggArr x50)⟩]
def kb37_4 (b0 b1 b2 b3 b4 b5 : Nat) (x7 x8 x9 x10 x11 x12 x13 x14 x15 x16 x17 x18 x19 x20 x1 x2 x21 x54 x50 : Value) : List KB := [⟨b0, true, 42, #[x7, x8, x9, x10, x11, x12, x13, x14, x15, x16, x17, x18, x19, x20]⟩, ⟨b1, true, 45, #[x1, x2]⟩, ⟨b2, true, 36, (aggArr x21)⟩, ⟨b3, true, 83, #[(U 0), (U 0), (U 0), (U 0), (U 0), (U 0), (U 0), (U 0), (U 0), (U 0), (U 0), (U 0), (U 0), (U 0), (U 0), (U 0), (U 0), (U 0), (U 0), (U 0), (U 0), (U 0), (U 0), (U 0), (U 0), (U 0), (U 0), (U 0), (U 0), (U 0), (U 0), (U 0), (U 0), (U 0), (U 0), (U 0), (U 0), (U 0), (U 0), (U 0), (.slice none 0 0), (.slice none 0 0)]⟩, ⟨b4, true, 167, (aggArr x54)⟩, ⟨b5, true, 29, (aggArr x50)⟩]
def kb37_5 (b0 b1 b2 b3 b4 : Nat) (x7 x8 x9 x10 x11 x12 x13 x14 x15 x16 x17 x18 x19 x20 x1 x2 x21 x38 : Value) : List KB := [⟨b0, true, 42, #[x7, x8, x9, x10, x11, x12, x13, x14, x15, x16, x17, x18, x19, x20]⟩, ⟨b1, true, 45, #[x1, x2]⟩, ⟨b2, true, 36, (aggArr x21)⟩, ⟨b3, true, 83, #[(U 0), (U 0), (U 0), (U 0), (U 0), (U 0), (U 0), (U 0), (U 0), (U 0), (U 0), (U 0), (U 0), (U 0), (U 0), (U 0), (U 0), (U 0), (U 0), (U 0), (U 0), (U 0), (U 0), (U 0), (U 0), (U 0), (U 0), (U 0), (U 0), (U 0), (U 0), (U 0), (U 0), (U 0), (U 0), (U 0), (U 0), (U 0), (U 0), (U 0), (.slice none 0 0), (.slice none 0 0)]⟩, ⟨b4, true, 167, (aggArr x38)⟩]
def kb37_6 (b0 b1 b2 b3 b4 : Nat) (x7 x8 x9 x10 x11 x12 x13 x14 x15 x16 x17 x18 x19 x20 x1 x2 x21 x46 : Value) : List KB := [⟨b0, true, 42, #[x7, x8, x9, x10, x11, x12, x13, x14, x15, x16, x17, x18, x19, x20]⟩, ⟨b1, true, 45, #[x1, x2]⟩, ⟨b2, true, 36, (aggArr x21)⟩, ⟨b3, true, 83, #[(U 0), (U 0), (U 0), (U 0), (U 0), (U 0), (U 0), (U 0), (U 0), (U 0), (U 0), (U 0), (U 0), (U 0), (U 0), (U 0), (U 0), (U 0), (U 0), (U 0), (U 0), (U 0), (U 0), (U 0), (U 0), (U 0), (U 0), (U 0), (U 0), (U 0), (U 0), (U 0), (U 0), (U 0), (U 0), (U 0), (U 0), (U 0), (U 0), (U 0), (.slice none 0 0), (.slice none 0 0)]⟩, ⟨b4, true, 167, (aggArr x46)⟩]
def kb37_7 (b0 b1 b2 b3 b4 : Nat) (x7 x8 x9 x10 x11 x12 x13 x14 x15 x16 x17 x18 x19 x20 x1 x2 x21 x55 x53 : Value) : List KB := [⟨b0, true, 42, #[x7, x8, x9, x10, x11, x12, x13, x14, x15, x16, x17, x18, x19, x20]⟩, ⟨b1, true, 45, #[x1, x2]⟩, ⟨b2, true, 36, (aggArr x21)⟩, ⟨b3, true, 83, (aggArr x55)⟩, ⟨b4, true, 167, (aggArr x53)⟩]
theorem vc37 (X : Ctx) (β : Nat → Nat) (x0 x1 x2 x3 x4 : Value) : (run Tryz.prog ann37 37 [.x (.v 0), .l [.v 1, .v 2], .x (.v 3), .x (.v 4)] [] [] 6).den X (env0 [x0, x1, x2, x3, x4] X.w0) 6 β 0 (fun _ _ _ => False) = (
 Ask (rAgg 14 x0) fun x6 =>
 Ask (rSel (aggArr x6) 0 1 false) fun x7 =>
 Ask (rSel (aggArr x6) 1 1 false) fun x8 =>
 Ask (rSel (aggArr x6) 2 1 false) fun x9 =>
 Ask (rSel (aggArr x6) 3 1 false) fun x10 =>
 Ask (rSel (aggArr x6) 4 1 false) fun x11 =>
 Ask (rSel (aggArr x6) 5 1 false) fun x12 =>
 Ask (rSel (aggArr x6) 6 1 false) fun x13 =>
 Ask (rSel (aggArr x6) 7 1 false) fun x14 =>
 Ask (rSel (aggArr x6) 8 1 false) fun x15 =>
 Ask (rSel (aggArr x6) 9 1 false) fun x16 =>
 Ask (rSel (aggArr x6) 10 1 false) fun x17 =>
 Ask (rSel (aggArr x6) 11 1 false) fun x18 =>
 Ask (rSel (aggArr x6) 12 1 false) fun x19 =>
 Ask (rSel (aggArr x6) 13 1 false) fun x20 =>
 AskNew X.w0 fun b0 =>
 AskNew X.w0 fun b1 =>
 Ask (rAgg 18 x4) fun x21 =>
 AskNew X.w0 fun b2 =>
 AskNew X.w0 fun b3 =>
 AskW X X.w0 [] (kb37_0 b0 b1 b2 b3 x7 x8 x9 x10 x11 x12 x13 x14 x15 x16 x17 x18 x19 x20 x1 x2 x21) false 87 [(.agg #[x7, x8, x9, x10, x11, x12, x13, x14, x15, x16, x17, x18, x19, x20]), (.agg #[x1, x2]), x3, x21] fun x22 w22 =>
 Ask (rBin X.P .neq 37 false true x22 (J 0)) fun x23 =>
 (∃ t, x23 = .bool t) ∧ (x23 = .bool true →
 Ret X w22 [b3] (kb37_0 b0 b1 b2 b3 x7 x8 x9 x10 x11 x12 x13 x14 x15 x16 x17 x18 x19 x20 x1 x2 x21) (.tuple #[(.pointer none), (.slice none 0 0), (.agg #[(U 0), (U 0), (U 0), (U 0), (U 0), (U 0), (U 0), (U 0), (U 0), (U 0), (U 0), (U 0), (U 0), (U 0), (U 0), (U 0), (U 0), (U 0), (U 0), (U 0), (U 0), (U 0), (U 0), (U 0), (U 0), (U 0), (U 0), (U 0), (U 0), (U 0), (U 0), (U 0), (U 0), (U 0), (U 0), (U 0), (U 0), (U 0), (U 0), (U 0), (.slice none 0 0), (.slice none 0 0)]), x22])) ∧ (x23 = .bool false →
 AskW X w22 [] (kb37_0 b0 b1 b2 b3 x7 x8 x9 x10 x11 x12 x13 x14 x15 x16 x17 x18 x19 x20 x1 x2 x21) false 88 [x21] fun x24 w24 =>
 AskO X w24 [] (kb37_0 b0 b1 b2 b3 x7 x8 x9 x10 x11 x12 x13 x14 x15 x16 x17 x18 x19 x20 x1 x2 x21) true (appOp (.const (.slice none 0 0)) (.tmp 32) 47) 47 [(32, x3)] fun x25 w25 =>
 Ask (rBld X.P 167 #[(0, (J 1)), (1, (.agg #[x1, x2])), (2, x24), (3, x25)]) fun x26 =>
 Ask (rAgg 70 x26) fun x27 =>
 AskNew w25 fun b4 =>
 Ask (rGen X.P (Op.makeFunc (Fn.func 89) #[] #[Operand.tmp 4]) 165 [(4, (.pointer (some ⟨b0, 0, none⟩)))]) fun x28 =>
 Ask (rUpd (aggArr x27) 69 1 x28) fun x29 =>
 Ask (rLen X.P 47 x3) fun x30 =>
 ∃ (I0 : List Value → World → Prop) (μ0 : List Value → World → Nat), (∀ w, KnownV X w25 [b4] (kb37_1 b0 b1 b2 b3 b4 x7 x8 x9 x10 x11 x12 x13 x14 x15 x16 x17 x18 x19 x20 x1 x2 x21 x29) w → I0 [(.slice none 0 0), (J 0)] w) ∧ ∀ x31 x32 w33, I0 [x31, x32] w33 →
 Ask (rBin X.P .lss 3 false false x32 x30) fun x34 =>
 (∃ t, x34 = .bool t) ∧ (x34 = .bool true →
 Ask (rIad X.P 47 x3 x32) fun x35 =>
 Ask (rLoad X w33 [] 116 x35) fun x36 =>
 AskNew w33 fun b5 =>
 Ask (rAgg 5 x36) fun x37 =>
 Ask (rSel (aggArr x37) 0 1 false) fun x38 =>
 Ask (rSel (aggArr x37) 1 1 false) fun x39 =>
 Ask (rSel (aggArr x37) 2 1 false) fun x40 =>
 Ask (rSel (aggArr x37) 3 1 false) fun x41 =>
 Ask (rSel (aggArr x37) 4 1 false) fun x42 =>
 Ask (rSel (aggArr x29) 69 1 false) fun x43 =>
 AskF X 28 [x38] fun x44 =>
 AskV X w33 [b5] (kb37_2 b0 b1 b2 b3 b4 b5 x7 x8 x9 x10 x11 x12 x13 x14 x15 x16 x17 x18 x19 x20 x1 x2 x21 x29 x38 x39 x40 x41 x42) false x43 [x44, (.agg #[x39, x40, x41, x42])] fun x45 w45 =>
 AskO X w45 [] (kb37_2 b0 b1 b2 b3 b4 b5 x7 x8 x9 x10 x11 x12 x13 x14 x15 x16 x17 x18 x19 x20 x1 x2 x21 x29 x38 x39 x40 x41 x42) false (Op.buildSlice 40 1 #[(0, Operand.tmp 56)]) 40 [(56, x45)] fun x46 w46 =>
 AskO X w46 [] (kb37_2 b0 b1 b2 b3 b4 b5 x7 x8 x9 x10 x11 x12 x13 x14 x15 x16 x17 x18 x19 x20 x1 x2 x21 x29 x38 x39 x40 x41 x42) true (appOp (.tmp 46) (.tmp 57) 40) 40 [(46, x31), (57, x46)] fun x47 w47 =>
 Ask (rBin X.P .add 3 false true x32 (J 1)) fun x48 =>
 Again X w47 [] [] fun w => I0 [x47, x48] w ∧ μ0 [x47, x48] w < μ0 [x31, x32] w33) ∧ (x34 = .bool false →
 AskF X 23 [(.agg #[x1, x2])] fun x35 =>
 ∃ (I0 : List Value → World → Prop) (μ0 : List Value → World → Nat), (∀ w, KnownV X w33 [] (kb37_1 b0 b1 b2 b3 b4 x7 x8 x9 x10 x11 x12 x13 x14 x15 x16 x17 x18 x19 x20 x1 x2 x21 x29) w → I0 [(.slice none 0 0), (J 0), x29] w) ∧ ∀ x36 x37 x38 w39, I0 [x36, x37, x38] w39 →
 Ask (rBin X.P .lss 3 false false x37 x35) fun x40 =>
 (∃ t, x40 = .bool t) ∧ (x40 = .bool true →
 Ask (rBin X.P .quo 3 false false x37 x1) fun x41 =>
 Ask (rIad X.P 47 x3 x41) fun x42 =>
 Ask (rFad X.P 116 x42 0) fun x43 =>
 Ask (rLoad X w39 [] 22 x43) fun x44 =>
 Ask (rBin X.P .rem 3 false false x37 x1) fun x45 =>
 Ask (rBin X.P .shr 22 false false x44 x45) fun x46 =>
 Ask (rBin X.P .and 22 false true x46 (U 1)) fun x47 =>
 AskF X 28 [x47] fun x48 =>
 Ask (rAgg 4 (.agg #[(U 0), (U 0), (U 0), (U 0)])) fun _ =>
 AskNew w39 fun b5 =>
 Ask (rAgg 4 x48) fun x50 =>
 Ask (rSel (aggArr x38) 22 1 false) fun x51 =>
 AskO X w39 [b5] (kb37_3 b0 b1 b2 b3 b4 b5 x7 x8 x9 x10 x11 x12 x13 x14 x15 x16 x17 x18 x19 x20 x1 x2 x21 x38 x50) false (Op.buildSlice 28 1 #[(0, Operand.tmp 85)]) 28 [(85, x50)] fun x52 w52 =>
 AskO X w52 [] (kb37_3 b0 b1 b2 b3 b4 b5 x7 x8 x9 x10 x11 x12 x13 x14 x15 x16 x17 x18 x19 x20 x1 x2 x21 x38 x50) true (appOp (.tmp 84) (.tmp 86) 28) 28 [(84, x51), (86, x52)] fun x53 w53 =>
 Ask (rUpd (aggArr x38) 22 1 x53) fun x54 =>
 AskF X 28 [(U 1)] fun x55 =>
 AskF X 48 [x50, x55] fun x56 =>
 AskO X w53 [b4] (kb37_4 b0 b1 b2 b3 b4 b5 x7 x8 x9 x10 x11 x12 x13 x14 x15 x16 x17 x18 x19 x20 x1 x2 x21 x54 x50) false (Op.buildSlice 28 1 #[(0, Operand.tmp 93)]) 28 [(93, x56)] fun x57 w57 =>
 AskO X w57 [] (kb37_4 b0 b1 b2 b3 b4 b5 x7 x8 x9 x10 x11 x12 x13 x14 x15 x16 x17 x18 x19 x20 x1 x2 x21 x54 x50) true (appOp (.tmp 90) (.tmp 94) 28) 28 [(90, x36), (94, x57)] fun x58 w58 =>
 Ask (rBin X.P .add 3 false true x37 (J 1)) fun x59 =>
 Again X w58 [] [] fun w => I0 [x58, x59, x54] w ∧ μ0 [x58, x59, x54] w < μ0 [x36, x37, x38] w39) ∧ (x40 = .bool false →
 Ask (rSel (aggArr x38) 22 1 false) fun x41 =>
 Ask (rSel (aggArr x21) 0 4 true) fun x42 =>
 AskW X w39 [] (kb37_5 b0 b1 b2 b3 b4 x7 x8 x9 x10 x11 x12 x13 x14 x15 x16 x17 x18 x19 x20 x1 x2 x21 x38) false 91 [(.agg #[x7, x8, x9, x10, x11, x12, x13, x14, x15, x16, x17, x18, x19, x20]), x41, x36, x42] fun x43 w43 =>
 Ask (rExt X.P x43 0) fun x44 =>
 Ask (rExt X.P x43 1) fun _ =>
 Ask (rUpd (aggArr x38) 27 4 x44) fun x46 =>
 Ask (rSel (aggArr x21) 16 1 false) fun x47 =>
 Ask (rSel (aggArr x21) 17 1 false) fun x48 =>
 Ask (rSel (aggArr x21) 4 4 true) fun x49 =>
 AskW X w43 [b4] (kb37_6 b0 b1 b2 b3 b4 x7 x8 x9 x10 x11 x12 x13 x14 x15 x16 x17 x18 x19 x20 x1 x2 x21 x46) false 91 [(.agg #[x7, x8, x9, x10, x11, x12, x13, x14, x15, x16, x17, x18, x19, x20]), x47, x48, x49] fun x50 w50 =>
 Ask (rExt X.P x50 0) fun x51 =>
 Ask (rExt X.P x50 1) fun _ =>
 Ask (rUpd (aggArr x46) 31 4 x51) fun x53 =>
 Ask (rSel (aggArr x53) 27 42 true) fun x54 =>
 Ask (rAgg 42 x54) fun x55 =>
 Ret X w50 [b3, b4] (kb37_7 b0 b1 b2 b3 b4 x7 x8 x9 x10 x11 x12 x13 x14 x15 x16 x17 x18 x19 x20 x1 x2 x21 x55 x53) (.tuple #[(.pointer (some ⟨b4, 0, none⟩)), x31, x55, (J 0)]))))) := by kernel_rfl
theorem Pr.one {P : Pr} {d : Pq} (h : ∀ v ∈ [P.sl, P.sr, P.vs, P.bits, P.lc, P.ld, P.rc, P.rd, P.cm], v.oneCell' = true) : (P.cells d).all (·.oneCell') = true := by
  have a := h P.sl (by simp); have b := h P.sr (by simp); have c := h P.vs (by simp); have e := h P.bits (by simp); have f := h P.lc (by simp)
  have g := h P.ld (by simp); have i := h P.rc (by simp); have j := h P.rd (by simp); have k := h P.cm (by simp)
  simp only [Pr.cells, List.all_append, tpN_one a b, vwL_one (l := Value.slice none 0 0) (r := .slice none 0 0) rfl rfl, List.all_cons, List.all_nil, c, e, f, g, i, j, k, Bool.and_true]
  rfl
/-- Cells of the prover overwritten. -/
theorem a_updPr {P P' : Pr} {d : Pq} {pos m : Nat} {x : Value} {K : Value → Prop} (ds : List Value) (hx : x.cells.toList = ds) (hs : (P.cells d).take pos ++ ds ++ ((P.cells d).drop pos).drop m = P'.cells d) (hm : ds.length = m) (pm : pos + m ≤ 70) (ho : ds.all (·.oneCell') = true) (hK : K (.agg (P'.cells d).toArray)) :
    Ask (rUpd (aggArr (.agg (P.cells d).toArray)) pos m x) K := by
  have hl := Pr.cells_len P d
  refine a_upd3 ((P.cells d).take pos) (((P.cells d).drop pos).take m) (((P.cells d).drop pos).drop m) ds ?_ hx (by rw [List.length_take]; omega) (by rw [List.length_take, List.length_drop]; omega) hm ho ?_
  · rw [List.append_assoc, List.take_append_drop, List.take_append_drop]; rfl
  · rw [hs]; exact hK
theorem prF_mapN (f : Nat → F) (G : List Nat) (n : Nat) : prF ((mapN f n).map (·.val)) G n = sumF' (fun i => f i * rF (G.getD i 0)) n := sumF'_congr n fun i hi => by rw [getD_val, mapN_get f 0 hi]
theorem nlF (w : World) : LsF w nl [] := ⟨.inl ⟨rfl, rfl, rfl⟩, fun _ h => by cases h⟩
theorem nlS (w : World) : LsS w nl [] := ⟨.inl ⟨rfl, rfl, rfl⟩, fun _ h => by cases h⟩
def cBgn : Contract := fnW cPq (fun d _ => d.Ok) (fun d w v w' => ∃ b c vv P, v = .tuple #[Pt b, vv, .agg (vwL d.A d.Sg 0 0 0 0 0 0 0 0 nl nl).toArray, J 0] ∧ w.heap.size ≤ b ∧ w.heap.size ≤ c ∧ PrAt w' b c P d [] [] [] [] ∧ P.ph = 1 ∧ P.lc = nl ∧ P.ld = nl ∧ P.rc = nl ∧ P.rd = nl ∧ P.A = d.A ∧ P.S = d.Sg ∧ P.T1 = 0 ∧ P.T2 = 0 ∧ P.y = 0 ∧ P.z = 0 ∧ LsF w' vv (mapN d.com d.n) ∧ ∀ g, vv.ownBlock = some g → w.heap.size ≤ g ∧ g ≠ b)
def Tbg : Table := ((((((T0.add 87 cFtq).add 91 cCvj).add 88 cLst).add 89 cB1).add 28 cRInt).add 48 cqSub).add 23 cSize
theorem keepTbg : AllKeep Tryz.prog GT Tbg := ((((((keepT0.add keepsFtq).add keepsCvj).add keepsLst).add keepsB1).add keepsSInt).add keepsqSub).add keepsSize
theorem tyLF : ElTy Tryz.prog 40 31 4 32 (.agg #[U 0, U 0, U 0, U 0]) := tyL
set_option maxHeartbeats 4000000 in
theorem keepsBgn : Keeps1 Tryz.prog GT 37 cBgn := by
  refine keepsW (T := Tbg) (A := ann37) hMix keepTbg hGT (calls_of (by kernel_rfl)) (callsW_of (by kernel_rfl)) fun args d w0 hrd ok hgt => ?_
  obtain ⟨_, _, rfl, ⟨okp, g, h, rfl, hg, hh⟩, _, _, rfl, rfl, v, _, rfl, hv, _, _, rfl, ⟨okt, sl, sr, rfl, hsl, hsr⟩, rfl⟩ := hrd
  dsimp only at okp hg hh hv okt hsl hsr
  replace hg : LsS w0 g d.p.2.2.2.1 := hg
  replace hh : LsS w0 h d.p.2.2.2.2 := hh
  replace hv : LsO w0 v d.vs := hv
  replace hsl : LsS w0 sl d.t.2.2.2.2.1 := hsl
  replace hsr : LsS w0 sr d.t.2.2.2.2.2 := hsr
  have hpos := hgt.1
  refine ⟨[.x (.v 0), .l [.v 1, .v 2], .x (.v 3), .x (.v 4)], [], [], 6, env0 [.agg (setL d.p g h).toArray, J d.m, J d.n, v, .agg (tpN d.t sl sr).toArray] w0, fun b => b, 0, rfl, rfl, fun X hX => mem_none hX rfl, fun X hP hS hw hX hR => ?_⟩
  subst hw; try dsimp only at hR
  rw [vc37 X]
  have hN := ok.N
  have hN0 : 0 < d.N := Nat.mul_pos ok.m0 ok.n0
  have lG := ok.G
  have lH := ok.H
  have lsl := ok.sl
  have lsr := ok.sr
  have lvs := ok.vs
  have ln0 := ok.n0
  have ln1 := ok.n1
  refine a_agg (setL_len _ _ _) (setL_one (slAt_one hg.1) (slAt_one hh.1)) ?_
  iterate 12 refine a_sel1 rfl ?_
  refine a_sel1 (v := g) rfl ?_
  refine a_sel1 (v := h) rfl ?_
  intro b0 hb0 b1 hb1
  refine a_agg (tpN_len _ _ _) (tpN_one (slAt_one hsl.1) (slAt_one hsr.1)) ?_
  intro b2 hb2 b3 hb3
  refine call_W hX hS (T := Tbg) (f := 87) rfl d (fun w hw => ⟨⟨_, _, rfl, ⟨okp, g, h, rfl, hg.stp0 hw.stp, hh.stp0 hw.stp⟩, _, _, rfl, rfl, _, _, rfl, hv.stp0 hw.stp, _, _, rfl, ⟨okt, sl, sr, rfl, hsl.stp0 hw.stp, hsr.stp0 hw.stp⟩, rfl⟩, ok⟩) fun e u1 w1 h1 k1 s1 su1 hq => ?_
  subst hq
  rw [ask_neqN]
  refine a_if (fun h => by cases h) fun _ => ?_
  refine call_W hX hS (T := Tbg) (f := 88) rfl (d.t, ()) (fun w hw => ⟨⟨_, _, rfl, ⟨okt, sl, sr, rfl, hsl.stp0 (su1.trans0 hw.stp), hsr.stp0 (su1.trans0 hw.stp)⟩, rfl⟩, by show d.t.2.2.2.2.1.length ≤ 1000; omega, by show d.t.2.2.2.2.2.length ≤ 1000; omega, by show 0 < d.t.2.2.2.2.2.length; omega⟩) fun tv u2 w2 h2 k2 s2 su2 hq => ?_
  obtain ⟨l, r, rfl, ol, or'⟩ := hq
  dsimp only at ol or'
  have lo : ∀ b ∈ [b0, b1, b2, b3], b < u2.heap.size := fun b hb => h2.low (by simpa [kb37_0] using hb)
  have su02 := su1.trans0 su2
  refine a_append hX hP tyOP (v := .slice none 0 0) (x := v) rfl rfl rfl (by decide) (Nat.le_refl _) su02.size (World.ownsRow_nil _ _ _ _) (fun w hw => hv.1.stp0 (su02.trans0 hw.stp)) (flat_len encO_len _) (flat_oneJ one_encO _) (fun _ h => by cases h) (fun _ _ _ h => by cases h)
    (by unfold maxLen; omega) (by omega) fun vs' u3 w3 h3 k3 s3 su3 ov bl3 => ?_
  rw [List.nil_append, Nat.zero_add] at ov
  have su3 : Stp [] w2 w3 := su3
  have lo3 : ∀ b ∈ [b0, b1, b2, b3], b < u3.heap.size := fun b hb => h3.low (by simpa [kb37_0] using hb)
  have gv : ∀ q, vs'.ownBlock = some q → u3.heap.size ≤ q ∧ q < w3.heap.size := fun q hq => by
    refine ⟨?_, (ov.lt q hq).2⟩
    rw [hq] at bl3
    rcases bl3 with h | h
    · cases h
    · simp only [Option.some.injEq] at h; omega
  obtain ⟨la, lcp, rfl, _⟩ := slAt_form (own_slAt ol)
  obtain ⟨ra, rcp, rfl, _⟩ := slAt_form (own_slAt or')
  obtain ⟨va, vcp, rfl, _⟩ := slAt_form (own_slAt ov)
  obtain ⟨P0, eP0⟩ : ∃ P0 : Pr, P0 = ⟨1, .slice la d.t.2.2.2.2.1.length lcp, .slice ra d.t.2.2.2.2.2.length rcp, .slice va d.vs.length vcp, nl, nl, nl, nl, nl, 0, 0, 0, 0, 0, 0, .nilFunc⟩ := ⟨_, rfl⟩
  refine a_bld (P0.cells d).toArray hP (by rw [eP0]; kernel_rfl) ?_
  refine a_agg (Pr.cells_len _ _) (Pr.one (by rw [eP0]; simp [Value.oneCell'])) ?_
  intro b4 hb4
  rw [ask_makeFn (ps := #[Pt b0]) (by simp [argsFn])]
  refine a_updPr (P' := { P0 with cm := Fcm b0 }) [Fcm b0] rfl rfl rfl (by decide) rfl ?_
  refine a_len hP tyOP hv.1 ?_
  have su03 := su02.trans0 su3
  have z3 := su3.size
  have hU := su03.size
  have s33 := s3.size
  have offG : ∀ {q : Nat}, X.w0.heap.size ≤ q → ∀ b, g.ownBlock = some b → b ∉ [q] := fun hq => slAt_off hg.1 (by rw [flat_len encS_len]; omega) (by simpa using hq)
  have offH : ∀ {q : Nat}, X.w0.heap.size ≤ q → ∀ b, h.ownBlock = some b → b ∉ [q] := fun hq => slAt_off hh.1 (by rw [flat_len encS_len]; omega) (by simpa using hq)
  -- the commitments
  refine ⟨fun a w => ∃ (j : Nat) (o : Value), a = [o, J j] ∧ j ≤ d.n ∧ Kn X w ∧ MRows w3 w 31 4 encF [b4, b3, b2, b1, b0] 1 (fun _ => o) (fun _ => mapN d.com j), fun a _ => match a with | [_, i] => d.n - intNat i | _ => 0, fun w hw => ⟨0, _, rfl, Nat.zero_le _, hw.kn, MRows.nil w3 (hw.stp.drop (by simpa using hb4)) encF _ 1 _ 4⟩, ?_⟩
  rintro o _ wA ⟨j, _, he, hj, hkA, hmA⟩
  simp only [List.cons.injEq, and_true] at he
  obtain ⟨rfl, rfl⟩ := he
  have sA := hkA.stp0 hX
  have zA := hkA.sz0
  have zA3 := hmA.low.size
  rw [ask_lssN, lvs]
  refine a_ifD (fun hlt => ?_) fun hge => ?_
  · have hO := okO_at hv j
    refine ld_OP hP hkA (hv.1.stp0 sA) rfl (by omega) (fun _ _ => List.not_mem_nil) ?_
    intro b5 hb5
    refine a_cellsO ?_
    refine a_sel1 (v := Fcm b0) rfl ?_
    refine call_PE hS (T := Tbg) (f := 28) rfl (vAt d.vs j) hO.1 ?_
    refine call_V hX hS rfl (fun args w => by rw [hP]; exact enters_of (by kernel_rfl) args w) (T := Tbg) (f := 89) rfl (vAt d.vs j, bAt d.vs j, d.p, ()) (fun w hw => ⟨⟨_, _, rfl, ⟨rfl, Nat.lt_trans hO.1 (by decide)⟩, _, _, rfl, ⟨rfl, hO.2⟩, _, _, rfl, ⟨b0, rfl, okp, g, h, 42, row_kb hw (cs := (setL d.p g h).toArray) (by simp [kb37_2, setL, encS, aggArr]), (hg.stp0 sA).stp hw.stp (offG (by omega)), (hh.stp0 sA).stp hw.stp (offH (by omega))⟩, rfl⟩, trivial⟩) fun x u4 w4 h4 k4 s4 su4 hq => ?_
    dsimp only at hq
    subst hq
    rw [show rF (vAt d.vs j) * rF d.p.1 + rF (bAt d.vs j) * rF d.p.2.1 = d.com j from rfl]
    have hm4 : MRows w3 w4 31 4 encF [b5, b4, b3, b2, b1, b0] 1 (fun _ => o) (fun _ => mapN d.com j) := (hmA.more hb5).stpE su4 (by simp) (by simp; omega)
    refine a_pushR [d.com j] 1 rfl hX hP tyLF rfl rfl (by decide) encF_len hm4 (i := 0) (by decide) rfl hU (fun b hb => .inr (by simpa [kb37_2, or_comm, or_left_comm, or_assoc] using hb)) (fun b hb => by simpa [kb37_2, or_comm, or_left_comm, or_assoc] using hb) (fun b hb => by cases hb) (by decide) (by decide) (by kernel_rfl) (by simp [one_encF]) (by rw [mapN_len]; unfold maxLen; omega) (by rw [mapN_len]; omega) fun v' w5 k5 s5 hm5 => ?_
    rw [ask_succ (by omega)]
    intro w6 hw6
    refine ⟨⟨j + 1, v', rfl, hlt, hw6.kn, ((hm5.stp hw6.stp).less (fun b hb => List.mem_cons_of_mem _ hb)).congrV (fun i hi => ?_) (fun i hi => ?_)⟩, by simp [intNat]; omega⟩
    · obtain rfl : i = 0 := by omega
      rfl
    · obtain rfl : i = 0 := by omega
      exact (mapN_succ _ _).symm
  obtain rfl : j = d.n := by omega
  refine call_PE hS (T := Tbg) (f := 23) rfl ((d.m : Int), (d.n : Int)) trivial ?_
  dsimp only
  rw [sizeI_nat (show d.m * d.n < 2 ^ 63 by have : d.m * d.n = d.N := rfl; omega), show d.m * d.n = d.N from rfl]
  -- the bits
  have rA : wA.ownsRow w3.heap.size 31 4 o (mapN d.com d.n).length ((mapN d.com d.n).flatMap encF) := hmA.row 0 (by decide)
  rw [mapN_len] at rA
  have offA := hmA.off 0 (by decide)
  obtain ⟨fam, fam0, fam1⟩ : ∃ fam : Nat → Nat → F, fam 0 = d.bit ∧ fam 1 = fun i => d.bit i - 1 := ⟨fun j => if j = 0 then d.bit else fun i => d.bit i - 1, rfl, rfl⟩
  obtain ⟨PB, ePB⟩ : ∃ PB : Value → Pr, PB = fun v0 => { P0 with cm := Fcm b0, bits := v0 } := ⟨_, rfl⟩
  refine ⟨fun a w => ∃ (k : Nat) (V : Nat → Value), a = [V 1, J k, .agg ((PB (V 0)).cells d).toArray] ∧ k ≤ d.N ∧ Kn X w ∧ w.ownsRow w3.heap.size 31 4 o d.n ((mapN d.com d.n).flatMap encF) ∧ MRows w3 w 29 4 encF [b4, b3, b2, b1, b0] 2 V (fun j => mapN (fam j) k), fun a _ => match a with | [_, i, _] => d.N - intNat i | _ => 0, fun w hw => ⟨0, fun _ => nl, by rw [ePB, eP0], Nat.zero_le _, hw.kn, own_stp0 rA hw.stp, (MRows.nil w3 (hmA.low.trans0 hw.stp) encF _ 2 _ 4).congr fun j _ => rfl⟩, ?_⟩
  rintro _ _ _ w ⟨k, V, he, hk, hkn, hrA, hm⟩
  simp only [List.cons.injEq, and_true] at he
  obtain ⟨rfl, rfl, rfl⟩ := he
  have s0 := hkn.stp0 hX
  have z0 := hkn.sz0
  have zWw := hm.low.size
  rw [ask_lssN]
  refine a_ifD (fun hlt => ?_) fun hge => ?_
  · have hm0 := ok.m0
    have hdiv : k / d.m < d.vs.length := by rw [lvs]; exact Nat.div_lt_of_lt_mul hlt
    rw [ask_quoN hm0 (by omega)]
    refine ld_OPV hP hkn (hv.1.stp0 s0) rfl hdiv (fun _ _ => List.not_mem_nil) ?_
    have hr64 : k % d.m < 64 := by have := Nat.mod_lt k hm0; have := ok.m1; omega
    have hO : vAt d.vs (k / d.m) < B64 := (okO_at hv (k / d.m)).1
    rw [ask_remN hm0, ask_ushr (kd := .i64) hr64, ask_umask (k := 1) (Nat.lt_of_le_of_lt (Nat.div_le_self _ _) hO) rfl (by decide)]
    refine call_PE hS (T := Tbg) (f := 28) rfl (bitN d.vs d.m k) (Nat.lt_trans (bitN_lt _ _ _) (by decide)) ?_
    rw [bitF_S, show bitF d.vs d.m k = d.bit k from rfl]
    rw [ask_zero4]; intro b5 hb5
    rw [ask_aggS]
    refine a_sel1 (v := V 0) (by rw [ePB]; rfl) ?_
    have hlen : ∀ j i, (mapN (fam j) i).length = i := fun j i => mapN_len _ _
    refine a_pushR [fam 0 k] 1 rfl hX hP tySI rfl rfl (by decide) encF_len (hm.more hb5) (i := 0) (by decide) rfl hU (fun b hb => .inr (by simpa [kb37_3, or_comm, or_left_comm, or_assoc] using hb)) (fun b hb => by simpa [kb37_3, or_comm, or_left_comm, or_assoc] using hb) (fun b hb => ⟨by simp at hb; simp [hb], by simp at hb; subst hb; omega⟩) (by decide) (by decide) (by rw [fam0]; kernel_rfl) (by simp [one_encF]) (by rw [hlen]; unfold maxLen; omega) (by rw [hlen]; omega) fun v0 w5 k5 s5 hm5 => ?_
    have hrA5 : w5.ownsRow w3.heap.size 31 4 o d.n ((mapN d.com d.n).flatMap encF) := own_stp hrA s5 fun q hq hmem => by
      rcases List.mem_append.1 hmem with h | h
      · have := (hrA.lt q hq).2
        simp only [List.mem_singleton] at h; omega
      · exact own_diffI hrA (hm.row 0 (by decide)) (by decide) q hq h
    have hv0 : v0.cells.toList = [v0] ∧ v0.oneCell' = true := by
      have h1 : SlAt w5 v0 _ _ := own_slAt (hm5.row 0 (by decide))
      obtain ⟨va0, vc0, rfl, _⟩ := slAt_form h1
      exact ⟨rfl, rfl⟩
    refine a_updPr (P' := PB v0) [v0] hv0.1 (by rw [ePB]; rfl) rfl (by decide) (by simp [hv0.2]) ?_
    refine call_PE hS (T := Tbg) (f := 28) rfl 1 (by decide) ?_
    refine call_PE hS (T := Tbg) (f := 48) rfl ((d.bit k).val, 1) ⟨val_lt _, show 1 < W256 by decide⟩ ?_
    dsimp only
    rw [rF_val, rF_one]
    refine a_pushR [fam 1 k] 1 rfl hX hP tySI rfl rfl (by decide) encF_len hm5 (i := 1) (by decide) rfl hU (fun b hb => .inr (by simpa [kb37_4, or_comm, or_left_comm, or_assoc] using hb)) (fun b hb => by simpa [kb37_4, or_comm, or_left_comm, or_assoc] using hb) (fun b hb => ⟨by simp at hb; simp [hb], by simp at hb; subst hb; omega⟩) (by decide) (by decide) (by rw [fam1]; kernel_rfl) (by simp [one_encF]) (by show (mapN (fam 1) k).length + 1 ≤ _; rw [hlen]; unfold maxLen; omega) (by show ((mapN (fam 1) k).length + 1) * 32 ≤ _; rw [hlen]; omega) fun v1 w6 k6 s6 hm6 => ?_
    have hrA6 : w6.ownsRow w3.heap.size 31 4 o d.n ((mapN d.com d.n).flatMap encF) := own_stp hrA5 s6 fun q hq hmem => by
      rcases List.mem_append.1 hmem with h | h
      · simp only [List.mem_singleton] at h; subst h
        exact offA _ hq (by simp)
      · exact own_diffI hrA5 (hm5.row 1 (by decide)) (by decide) q hq h
    rw [ask_succ (by omega)]
    intro w7 hw7
    refine ⟨⟨k + 1, fun j => if j = 0 then v0 else v1, rfl, hlt, hw7.kn, own_stp0 hrA6 hw7.stp, ((hm6.stp hw7.stp).less (fun b hb => List.mem_cons_of_mem _ hb)).congrV (fun i hi => ?_) (fun i hi => ?_)⟩, by simp [intNat]; omega⟩
    · match i, hi with
      | 0, _ => rfl
      | 1, _ => rfl
    · match i, hi with
      | 0, _ => exact (mapN_succ _ _).symm
      | 1, _ => exact (mapN_succ _ _).symm
  obtain rfl : k = d.N := by omega
  have r0' : w.ownsRow w3.heap.size 29 4 (V 0) (mapN (fam 0) d.N).length ((mapN (fam 0) d.N).flatMap encF) := hm.row 0 (by decide)
  rw [mapN_len] at r0'
  have r0 := own_F r0'
  have r1' : w.ownsRow w3.heap.size 29 4 (V 1) (mapN (fam 1) d.N).length ((mapN (fam 1) d.N).flatMap encF) := hm.row 1 (by decide)
  rw [mapN_len] at r1'
  have r1 := own_F r1'
  refine a_sel1 (v := V 0) (by rw [ePB]; rfl) ?_
  refine a_selL (ds := encS d.t.1) rfl (by rw [tpN_len]; omega) ?_
  refine call_W hX hS (T := Tbg) (f := 91) rfl (d.p, (mapN (fam 0) d.N).map (fun x : F => x.val), (mapN (fam 1) d.N).map (fun x : F => x.val), d.t.1, ()) (fun w hw => ⟨⟨_, _, rfl, ⟨okp, g, h, rfl, hg.stp0 (s0.trans0 hw.stp), hh.stp0 (s0.trans0 hw.stp)⟩, _, _, rfl, lsF_toS (r0.stp0 hw.stp), _, _, rfl, lsF_toS (r1.stp0 hw.stp), _, _, rfl, ⟨rfl, okt.1⟩, rfl⟩, by simp only [List.length_map, mapN_len]; omega, by simp only [List.length_map, mapN_len]; omega, by simp only [List.length_map, mapN_len]; omega⟩) fun x u8 w8 h8 k8 s8 su8 hq => ?_
  dsimp only at hq
  rw [List.length_map, mapN_len, List.length_map, mapN_len, prF_mapN, prF_mapN, fam0, fam1, show rF d.t.1 * rF d.p.2.1 + sumF' (fun i => d.bit i * rF (d.p.2.2.2.1.getD i 0)) d.N + sumF' (fun i => (d.bit i - 1) * rF (d.p.2.2.2.2.getD i 0)) d.N = d.A from rfl] at hq
  subst hq
  rw [ask_ext0, ask_ext1]
  refine a_updPr (P' := { PB (V 0) with A := d.A }) (encF d.A) rfl (by rw [ePB]; rfl) rfl (by decide) (one_encF _) ?_
  refine a_sel1 (v := sl) rfl ?_
  refine a_sel1 (v := sr) rfl ?_
  refine a_selL (ds := encS d.t.2.1) rfl (by rw [tpN_len]; omega) ?_
  have offS : ∀ {v : Value} {l : List Nat} {q : Nat}, LsS X.w0 v l → l.length = d.N → X.w0.heap.size ≤ q → ∀ b, v.ownBlock = some b → b ∉ [q] := fun hs hl hq => slAt_off hs.1 (by rw [flat_len encS_len]; omega) (by simpa using hq)
  have s8' := s0.trans0 su8
  refine call_W hX hS (T := Tbg) (f := 91) rfl (d.p, d.t.2.2.2.2.1, d.t.2.2.2.2.2, d.t.2.1, ()) (fun w hw => ⟨⟨_, _, rfl, ⟨okp, g, h, rfl, (hg.stp0 s8').stp hw.stp (offG (by omega)), (hh.stp0 s8').stp hw.stp (offH (by omega))⟩, _, _, rfl, (hsl.stp0 s8').stp hw.stp (offS hsl lsl (by omega)), _, _, rfl, (hsr.stp0 s8').stp hw.stp (offS hsr lsr (by omega)), _, _, rfl, ⟨rfl, okt.2.1⟩, rfl⟩, by show d.t.2.2.2.2.1.length ≤ d.p.2.2.2.1.length; omega, by show d.t.2.2.2.2.2.length ≤ d.p.2.2.2.2.length; omega, by show d.t.2.2.2.2.1.length + d.t.2.2.2.2.2.length ≤ 122; omega⟩) fun x u9 w9 h9 k9 s9 su9 hq => ?_
  dsimp only at hq
  rw [lsl, lsr, show rF d.t.2.1 * rF d.p.2.1 + prF d.t.2.2.2.2.1 d.p.2.2.2.1 d.N + prF d.t.2.2.2.2.2 d.p.2.2.2.2 d.N = d.Sg from rfl] at hq
  subst hq
  rw [ask_ext0, ask_ext1]
  refine a_updPr (P' := { PB (V 0) with A := d.A, S := d.Sg }) (encF d.Sg) rfl (by rw [ePB]; rfl) rfl (by decide) (one_encF _) ?_
  refine a_selL (ds := vwL d.A d.Sg 0 0 0 0 0 0 0 0 nl nl) (by rw [ePB, eP0]; rfl) (by rw [Pr.cells_len]; omega) ?_
  refine a_agg (vwL_len _ _ _ _ _ _ _ _ _ _ _ _) (vwL_one rfl rfl) ?_
  obtain ⟨PF, ePF⟩ : ∃ PF : Pr, PF = { PB (V 0) with A := d.A, S := d.Sg } := ⟨_, rfl⟩
  have sWf : Stp [b4] w w9 := by simpa using su8.trans su9
  have z9 := sWf.size
  have l3 : ∀ b ∈ [b0, b1, b2, b3], b < w3.heap.size := fun b hb => by have := lo3 b hb; omega
  have l2 : ∀ b ∈ [b0, b1, b2, b3], b < u2.heap.size := lo
  have ne04 : b0 ≠ b4 := by have := l3 b0 (by simp); omega
  have z2 := s2.size
  have su2z := su2.size
  have zu3 := h3.size
  refine hR _ _ _ _ fun wf hwf => ?_
  have hs : Stp [b3, b4] w9 wf := hwf.stp
  have s3f : Stp [] w3 w9 := (hm.low.trans sWf).drop (by simpa using hb4)
  -- lists in old memory
  have old : ∀ {α : Type} {enc : α → List Value} {ok' : α → Prop} {v : Value} {l : List α}, Ls enc ok' X.w0 v l → 0 < (l.flatMap enc).length → Ls enc ok' wf v l ∧ v.ownBlock ≠ some b4 := fun hl h0 => by
    refine ⟨(hl.stp0 (su03.trans0 s3f)).stp hs (slAt_off hl.1 h0 (by simp; omega)), fun hq => ?_⟩
    exact slAt_off hl.1 h0 (ex := [b4]) (by simp; omega) b4 hq (by simp)
  obtain ⟨g1, g2⟩ := old hg (by rw [flat_len encS_len]; omega)
  obtain ⟨h1', h2'⟩ := old hh (by rw [flat_len encS_len]; omega)
  -- lists in new memory
  have nw : ∀ {u wq : World} {e s n base : Nat} {v : Value} {xs : List Value}, wq.ownsRow base e s v n xs → Stp [] wq w9 → wq.heap.size ≤ b4 → b3 < base → SlAt wf v n xs ∧ v.ownBlock ≠ some b4 := fun {u wq e s n base v xs} ho hst hb hbase => by
    refine ⟨(own_slAt ho).stp0 hst |>.stp hs fun q hq hm => ?_, fun hq => ?_⟩
    · have := ho.lt q hq
      simp only [List.mem_cons, List.not_mem_nil, or_false] at hm
      omega
    · have := ho.lt b4 hq
      omega
  have b3u2 := l2 b3 (by simp)
  obtain ⟨l1, l1'⟩ := nw (u := w9) ol (su3.trans0 s3f) (by omega) b3u2
  obtain ⟨r1', r1''⟩ := nw (u := w9) or' (su3.trans0 s3f) (by omega) b3u2
  have ov' : SlAt wf (.slice va d.vs.length vcp) d.vs.length (d.vs.flatMap encO) ∧ (Value.slice va d.vs.length vcp).ownBlock ≠ some b4 := by
    refine ⟨(own_slAt ov).stp0 s3f |>.stp hs fun q hq hm => ?_, fun hq => ?_⟩
    · have := gv q hq
      have := lo3 b3 (by simp)
      simp only [List.mem_cons, List.not_mem_nil, or_false] at hm
      omega
    · have := gv b4 hq
      omega
  have off : ∀ {N : Nat} {V : Nat → Value} {α : Type} {U w' : World} {e s : Nat} {enc : α → List Value} {l : Nat → List α}, MRows U w' e s enc [b4, b3, b2, b1, b0] N V l → ∀ j, j < N → (∀ q, (V j).ownBlock = some q → q ∉ [b3, b4]) ∧ (V j).ownBlock ≠ some b4 := fun hm j hj => ⟨fun q hq hmem => hm.off j hj q hq (by
      simp only [List.mem_cons, List.not_mem_nil, or_false] at hmem ⊢
      omega), fun hq => hm.off j hj b4 hq (by simp)⟩
  obtain ⟨f1, f2⟩ := off hm 0 (by decide)
  obtain ⟨f3, f4⟩ := off hmA 0 (by decide)
  have rb : LsF wf (V 0) (mapN d.bit d.N) := fam0 ▸ (r0.stp sWf fun q hq hmem => f2 (by simp only [List.mem_singleton] at hmem; rw [← hmem]; exact hq)).stp hs f1
  refine ⟨b4, b0, o, PF, rfl, by omega, hb0, ⟨by omega, ne04, ?_, by rw [ePF, ePB], okp, okt, ⟨g, h, ?_, g1, h1', g2, h2'⟩, ?_, ?_, ?_, ?_, ?_, ?_, ?_, ?_, ?_⟩, ?_⟩
  · exact row_kb hwf (cs := (PF.cells d).toArray) (by rw [ePF]; simp [kb37_7, aggArr])
  · exact row_kb hwf (cs := (setL d.p g h).toArray) (by simp [kb37_7, setL, encS, aggArr])
  · rw [ePF, ePB, eP0]; exact ⟨l1, hsl.2⟩
  · rw [ePF, ePB, eP0]; exact ⟨r1', hsr.2⟩
  · rw [ePF, ePB, eP0]; exact ⟨ov'.1, hv.2⟩
  · rw [ePF, ePB, eP0]; exact rb
  · rw [ePF, ePB, eP0]; exact nlF _
  · rw [ePF, ePB, eP0]; exact nlS _
  · rw [ePF, ePB, eP0]; exact nlF _
  · rw [ePF, ePB, eP0]; exact nlF _
  · rw [ePF, ePB, eP0]
    intro v hv
    simp only [List.mem_cons, List.not_mem_nil, or_false] at hv
    rcases hv with rfl | rfl | rfl | rfl | rfl | rfl | rfl | rfl
    · exact l1'
    · exact r1''
    · exact ov'.2
    · exact f2
    all_goals exact fun h => by cases h
  · rw [ePF, ePB, eP0]
    refine ⟨rfl, rfl, rfl, rfl, rfl, rfl, rfl, rfl, rfl, rfl, rfl, ?_, fun q hq => ⟨?_, fun e => f4 (e ▸ hq)⟩⟩
    · exact ((own_F hrA).stp sWf fun q hq hmem => f4 (by simp only [List.mem_singleton] at hmem; rw [← hmem]; exact hq)).stp hs f3
    · have := (hrA.lt q hq).1
      omega
#print axioms keepsBgn
end Go.Vc
