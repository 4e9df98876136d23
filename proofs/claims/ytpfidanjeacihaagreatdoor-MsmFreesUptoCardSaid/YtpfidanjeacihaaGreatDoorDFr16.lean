/-
  MsmFrees: the walk.
-/
import Derived.Test.YtpfidanjeacihaaGreatDoorDFr15
namespace Go.Vc
open Go Go.Proofs Go.RowKit

theorem Tr.stpN {lo : Nat} {w w' : World} {v : Value} {l : List Nat} {ex : List Nat} (h : Tr lo w v l) (s : Stp ex w w') (hx : ∀ b ∈ ex, w.heap.size ≤ b) : Tr lo w' v l := by
  obtain ⟨x, rfl, o⟩ := h
  exact ⟨x, rfl, own_stp o s fun q hq hm => by have := (o.lt q hq).2; have := hx q hm; omega⟩
/-- The arguments of MsmFrees. -/
def cMFa : Cods (List Nat × List Nat × Nat) := ⟨fun w l p => ∃ x y cs, l = [x, y, S p.2.2, .agg (List.toArray cs)] ∧ cLS.rd w x p.1 ∧ cLS.rd w y p.2.1 ∧ okS p.2.2 ∧ cs.length = 32 ∧ cs.all (·.oneCell') = true, fun w l ⟨a, b, k⟩ ⟨a', b', k'⟩ ⟨x, y, cs, e, h1, h2, h3, _⟩ ⟨x', y', cs', e', h1', h2', h3', _⟩ => by
  dsimp only at e h1 h2 h3 e' h1' h2' h3'
  rw [e] at e'
  simp only [List.cons.injEq, and_true] at e'
  obtain ⟨rfl, rfl, hs, _⟩ := e'
  rw [cLS.inj _ _ _ _ h1 h1', cLS.inj _ _ _ _ h2 h2', S_inj h3 h3' hs]⟩
def mxM : Nat := 1048576
def cMF : Contract := fnW cMFa (fun p _ => p.1.length ≤ mxM ∧ p.2.1.length ≤ mxM) (fun _ _ v _ => v = .bool true)
def Tmf : Table := (((((((((((((((((((T0.add 5 cCopied7).add 6 cFreeOf).add 7 cNums).add 8 cFAdd).add 9 cFNeg).add 10 cFDbl).add 11 cFTim).add 12 cRAddF).add 13 cRNegF).add 14 cRDblF).add 15 cRTim).add 17 cFreeIs).add 18 cFSame).add 19 cESameF).add 20 cFEnc).add 21 cREncF).add 22 cUnt).add 23 cFDec).add 16 cLeastS)
theorem keepTmf : AllKeep Tryz.prog GH Tmf := (((((((((((((((((((keepH0.add (keepsCopied7.inG gGT)).add (keepsFreeOf.inG gGT)).add (keepsNums.inG gGT)).add (keepsFAdd.inG gGT)).add (keepsFNeg.inG gGT)).add (keepsFDbl.inG gGT)).add (keepsFTim.inG gGT)).add (keepsRAddF.inG gGT)).add (keepsRNegF.inG gGT)).add (keepsRDblF.inG gGT)).add (keepsRTim.inG gGT)).add (keepsFreeIs.inG gGT)).add (keepsFSame.inG gGT)).add (keepsESameF.inG gGT)).add keepsFEnc).add keepsREncF).add (keepsUnt.inG gGT)).add (keepsFDec.inG gGT)).add (keepsNum7.inG gGT))
def ann3 : Ann := ⟨[(6, ([8, 15], [])), (17, ([20], [0, 1, 2, 3, 4, 5, 6, 7, 8])), (21, ([21], [])), (25, ([22], [0, 1, 2, 3, 4, 5, 6, 7, 8])), (29, ([23], [8])), (33, ([8, 24], [0, 1, 2, 3, 4, 5, 6, 7, 8])), (36, ([8, 25], []))], [16], 70, [(5, false), (6, false), (7, false), (8, false), (9, false), (10, false), (11, false), (12, false), (13, false), (14, false), (15, false), (17, false), (18, false), (19, false), (20, false), (21, false), (22, false), (23, false)], [11, 12, 18, 19], none, [], []⟩
def kb3_0 (b0 b1 : Nat) (x6 x7 x8 x9 x10 : Value) : List KB := [⟨b0, true, 25, #[x6, x7, x8, x9]⟩, ⟨b1, true, 27, (aggArr x10)⟩]
def kb3_1 (b0 b1 b2 b3 : Nat) (x6 x7 x8 x9 x10 x15 x16 : Value) : List KB := [⟨b0, true, 25, #[x6, x7, x8, x9]⟩, ⟨b1, true, 27, (aggArr x10)⟩, ⟨b2, true, 30, #[x15]⟩, ⟨b3, true, 30, #[x16]⟩]
def kb3_2 (b0 b1 b2 b3 b4 b5 : Nat) (x6 x7 x8 x9 x10 x15 x16 x23 x24 : Value) : List KB := [⟨b0, true, 25, #[x6, x7, x8, x9]⟩, ⟨b1, true, 27, (aggArr x10)⟩, ⟨b2, true, 30, #[x15]⟩, ⟨b3, true, 30, #[x16]⟩, ⟨b4, true, 40, (aggArr x23)⟩, ⟨b5, true, 40, (aggArr x24)⟩]
def kb3_3 (b0 b1 b2 b3 b4 b5 b6 b7 b8 : Nat) (x6 x7 x8 x9 x10 x15 x16 x23 x24 x61 x66 x67 : Value) : List KB := [⟨b0, true, 25, #[x6, x7, x8, x9]⟩, ⟨b1, true, 27, (aggArr x10)⟩, ⟨b2, true, 30, #[x15]⟩, ⟨b3, true, 30, #[x16]⟩, ⟨b4, true, 40, (aggArr x23)⟩, ⟨b5, true, 40, (aggArr x24)⟩, ⟨b6, true, 30, #[x61]⟩, ⟨b7, true, 60, (aggArr x66)⟩, ⟨b8, true, 60, (aggArr x67)⟩]
def kb3_4 (b0 b1 b2 b3 b4 b5 b6 b7 b8 : Nat) (x69 x70 x71 x72 x73 x74 x75 x76 x77 x78 x87 x80 : Value) : List KB := [⟨b0, true, 25, #[x69, x70, x71, x72]⟩, ⟨b1, true, 27, (aggArr x73)⟩, ⟨b2, true, 30, #[x74]⟩, ⟨b3, true, 30, #[x75]⟩, ⟨b4, true, 40, (aggArr x76)⟩, ⟨b5, true, 40, (aggArr x77)⟩, ⟨b6, true, 30, #[x78]⟩, ⟨b7, true, 60, (aggArr x87)⟩, ⟨b8, true, 60, (aggArr x80)⟩]
def kb3_5 (b0 b1 b2 b3 b4 b5 b6 b7 b8 : Nat) (x69 x70 x71 x72 x73 x74 x75 x76 x77 x78 x79 x80 : Value) : List KB := [⟨b0, true, 25, #[x69, x70, x71, x72]⟩, ⟨b1, true, 27, (aggArr x73)⟩, ⟨b2, true, 30, #[x74]⟩, ⟨b3, true, 30, #[x75]⟩, ⟨b4, true, 40, (aggArr x76)⟩, ⟨b5, true, 40, (aggArr x77)⟩, ⟨b6, true, 30, #[x78]⟩, ⟨b7, true, 60, (aggArr x79)⟩, ⟨b8, true, 60, (aggArr x80)⟩]
def kb3_6 (b0 b1 b2 b3 b4 b5 b6 b7 b8 : Nat) (x84 x85 x86 x87 x88 x89 x90 x91 x92 x93 x94 x101 : Value) : List KB := [⟨b0, true, 25, #[x84, x85, x86, x87]⟩, ⟨b1, true, 27, (aggArr x88)⟩, ⟨b2, true, 30, #[x89]⟩, ⟨b3, true, 30, #[x90]⟩, ⟨b4, true, 40, (aggArr x91)⟩, ⟨b5, true, 40, (aggArr x92)⟩, ⟨b6, true, 30, #[x93]⟩, ⟨b7, true, 60, (aggArr x94)⟩, ⟨b8, true, 60, (aggArr x101)⟩]
def kb3_7 (b0 b1 b2 b3 b4 b5 b6 b7 b8 : Nat) (x84 x85 x86 x87 x88 x89 x90 x91 x92 x93 x94 x103 : Value) : List KB := [⟨b0, true, 25, #[x84, x85, x86, x87]⟩, ⟨b1, true, 27, (aggArr x88)⟩, ⟨b2, true, 30, #[x89]⟩, ⟨b3, true, 30, #[x90]⟩, ⟨b4, true, 40, (aggArr x91)⟩, ⟨b5, true, 40, (aggArr x92)⟩, ⟨b6, true, 30, #[x93]⟩, ⟨b7, true, 60, (aggArr x94)⟩, ⟨b8, true, 60, (aggArr x103)⟩]
def kb3_8 (b0 b1 b2 b3 b4 b5 b6 b7 b8 : Nat) (x84 x85 x86 x87 x88 x89 x90 x91 x92 x93 x94 x95 : Value) : List KB := [⟨b0, true, 25, #[x84, x85, x86, x87]⟩, ⟨b1, true, 27, (aggArr x88)⟩, ⟨b2, true, 30, #[x89]⟩, ⟨b3, true, 30, #[x90]⟩, ⟨b4, true, 40, (aggArr x91)⟩, ⟨b5, true, 40, (aggArr x92)⟩, ⟨b6, true, 30, #[x93]⟩, ⟨b7, true, 60, (aggArr x94)⟩, ⟨b8, true, 60, (aggArr x95)⟩]
def kb3_9 (b0 b1 b2 b3 b4 b5 b6 b7 b8 : Nat) (x100 x101 x102 x103 x104 x105 x106 x107 x108 x109 x110 x111 : Value) : List KB := [⟨b0, true, 25, #[x100, x101, x102, x103]⟩, ⟨b1, true, 27, (aggArr x104)⟩, ⟨b2, true, 30, #[x105]⟩, ⟨b3, true, 30, #[x106]⟩, ⟨b4, true, 40, (aggArr x107)⟩, ⟨b5, true, 40, (aggArr x108)⟩, ⟨b6, true, 30, #[x109]⟩, ⟨b7, true, 60, (aggArr x110)⟩, ⟨b8, true, 60, (aggArr x111)⟩]
theorem vc3 (X : Ctx) (β : Nat → Nat) (x0 x1 x2 x3 : Value) : (run Tryz.prog ann3 3 [.x (.v 0), .x (.v 1), .x (.v 2), .x (.v 3)] [] [] 5).den X (env0 [x0, x1, x2, x3] X.w0) 5 β 0 (fun _ _ _ => False) = (
  Ask (rAgg 4 x2) fun x5 =>
  Ask (rSel (aggArr x5) 0 1 false) fun x6 =>
  Ask (rSel (aggArr x5) 1 1 false) fun x7 =>
  Ask (rSel (aggArr x5) 2 1 false) fun x8 =>
  Ask (rSel (aggArr x5) 3 1 false) fun x9 =>
  AskNew X.w0 fun b0 =>
  Ask (rAgg 32 x3) fun x10 =>
  AskNew X.w0 fun b1 =>
  AskW X X.w0 [] (kb3_0 b0 b1 x6 x7 x8 x9 x10) false 5 [x0] fun x11 w11 =>
  Ask (rPlain x11) fun x12 =>
  AskW X w11 [] (kb3_0 b0 b1 x6 x7 x8 x9 x10) false 5 [x1] fun x13 w13 =>
  Ask (rPlain x13) fun x14 =>
  AskNew w13 fun b2 =>
  AskNew w13 fun b3 =>
  Ask (rPlain x12) fun x15 =>
  Ask (rPlain x14) fun x16 =>
  AskW X w13 [b3, b2] (kb3_1 b0 b1 b2 b3 x6 x7 x8 x9 x10 x15 x16) false 7 [x0] fun x17 w17 =>
  AskW X w17 [] (kb3_1 b0 b1 b2 b3 x6 x7 x8 x9 x10 x15 x16) false 6 [x17] fun x18 w18 =>
  AskW X w18 [] (kb3_1 b0 b1 b2 b3 x6 x7 x8 x9 x10 x15 x16) false 7 [x1] fun x19 w19 =>
  AskW X w19 [] (kb3_1 b0 b1 b2 b3 x6 x7 x8 x9 x10 x15 x16) false 6 [x19] fun x20 w20 =>
  Ask (rAgg 26 (.agg #[(J 0), (J 0), (J 0), (J 0), (J 0), (J 0), (J 0), (J 0), (J 0), (J 0), (J 0), (J 0), (J 0), (J 0), (J 0), (J 0), (J 0), (J 0), (J 0), (J 0), (J 0), (U 0), (U 0), (U 0), (U 0), (.slice none 0 0)])) fun _ =>
  AskNew w20 fun b4 =>
  Ask (rAgg 26 (.agg #[(J 0), (J 0), (J 0), (J 0), (J 0), (J 0), (J 0), (J 0), (J 0), (J 0), (J 0), (J 0), (J 0), (J 0), (J 0), (J 0), (J 0), (J 0), (J 0), (J 0), (J 0), (U 0), (U 0), (U 0), (U 0), (.slice none 0 0)])) fun _ =>
  AskNew w20 fun b5 =>
  Ask (rAgg 26 x18) fun x23 =>
  Ask (rAgg 26 x20) fun x24 =>
  AskW X w20 [b5, b4] (kb3_2 b0 b1 b2 b3 b4 b5 x6 x7 x8 x9 x10 x15 x16 x23 x24) false 8 [(.agg #[x15]), (.agg #[x16])] fun x25 w25 =>
  AskW X w25 [] (kb3_2 b0 b1 b2 b3 b4 b5 x6 x7 x8 x9 x10 x15 x16 x23 x24) false 9 [(.agg #[x15])] fun x26 w26 =>
  AskW X w26 [] (kb3_2 b0 b1 b2 b3 b4 b5 x6 x7 x8 x9 x10 x15 x16 x23 x24) false 10 [(.agg #[x15])] fun x27 w27 =>
  AskW X w27 [] (kb3_2 b0 b1 b2 b3 b4 b5 x6 x7 x8 x9 x10 x15 x16 x23 x24) false 11 [(.agg #[x15]), (.agg #[x6, x7, x8, x9])] fun x28 w28 =>
  AskW X w28 [] (kb3_2 b0 b1 b2 b3 b4 b5 x6 x7 x8 x9 x10 x15 x16 x23 x24) false 8 [(.agg #[x15]), (.agg #[x16])] fun x29 w29 =>
  AskW X w29 [] (kb3_2 b0 b1 b2 b3 b4 b5 x6 x7 x8 x9 x10 x15 x16 x23 x24) false 9 [(.agg #[x15])] fun x30 w30 =>
  AskW X w30 [] (kb3_2 b0 b1 b2 b3 b4 b5 x6 x7 x8 x9 x10 x15 x16 x23 x24) false 10 [(.agg #[x15])] fun x31 w31 =>
  AskW X w31 [] (kb3_2 b0 b1 b2 b3 b4 b5 x6 x7 x8 x9 x10 x15 x16 x23 x24) false 11 [(.agg #[x15]), (.agg #[x6, x7, x8, x9])] fun x32 w32 =>
  AskO X w32 [] (kb3_2 b0 b1 b2 b3 b4 b5 x6 x7 x8 x9 x10 x15 x16 x23 x24) false (Go.Op.buildSlice 46 8 #[(0, Go.Operand.tmp 40), (1, Go.Operand.tmp 42), (2, Go.Operand.tmp 44), (3, Go.Operand.tmp 47), (4, Go.Operand.tmp 50), (5, Go.Operand.tmp 52), (6, Go.Operand.tmp 54), (7, Go.Operand.tmp 57)]) 46 [(40, x25), (42, x26), (44, x27), (47, x28), (50, x29), (52, x30), (54, x31), (57, x32)] fun x33 w33 =>
  AskW X w33 [] (kb3_2 b0 b1 b2 b3 b4 b5 x6 x7 x8 x9 x10 x15 x16 x23 x24) false 12 [x23, x24] fun x34 w34 =>
  AskW X w34 [] (kb3_2 b0 b1 b2 b3 b4 b5 x6 x7 x8 x9 x10 x15 x16 x23 x24) false 13 [x23] fun x35 w35 =>
  AskW X w35 [] (kb3_2 b0 b1 b2 b3 b4 b5 x6 x7 x8 x9 x10 x15 x16 x23 x24) false 14 [x23] fun x36 w36 =>
  AskF X 16 [(.agg #[x6, x7, x8, x9])] fun x37 =>
  AskW X w36 [] (kb3_2 b0 b1 b2 b3 b4 b5 x6 x7 x8 x9 x10 x15 x16 x23 x24) false 15 [x23, x37] fun x38 w38 =>
  AskO X w38 [] (kb3_2 b0 b1 b2 b3 b4 b5 x6 x7 x8 x9 x10 x15 x16 x23 x24) false (Go.Op.buildSlice 51 4 #[(0, Go.Operand.tmp 61), (1, Go.Operand.tmp 63), (2, Go.Operand.tmp 65), (3, Go.Operand.tmp 69)]) 51 [(61, x34), (63, x35), (65, x36), (69, x38)] fun x39 w39 =>
  ∃ (I0 : List Value → World → Prop) (μ0 : List Value → World → Nat), (∀ w, KnownV X w39 [] (kb3_2 b0 b1 b2 b3 b4 b5 x6 x7 x8 x9 x10 x15 x16 x23 x24) w → I0 [(.bool false), (J 0)] w) ∧ ∀ x40 x41 w42, I0 [x40, x41] w42 →
    Ask (rBin X.P .lss 3 false true x41 (J 8)) fun x43 =>
    (∃ t, x43 = .bool t) ∧ (x43 = .bool true →
      Ask (rIad X.P 46 x33 x41) fun x44 =>
      Ask (rLoad X w42 [] 30 x44) fun x45 =>
      Ask (rBin X.P .rem 3 false true x41 (J 4)) fun x46 =>
      Ask (rIad X.P 51 x39 x46) fun x47 =>
      Ask (rLoad X w42 [] 40 x47) fun x48 =>
      AskW X w42 [] (kb3_2 b0 b1 b2 b3 b4 b5 x6 x7 x8 x9 x10 x15 x16 x23 x24) false 17 [x45, x48] fun x49 w49 =>
      Ask (rUn X.P .not x49) fun x50 =>
      (∃ t, x50 = .bool t) ∧ (x50 = .bool true →
        Ret X w49 [] [] (.bool false)) ∧ (x50 = .bool false →
        Ask (rBin X.P .add 3 false true x41 (J 1)) fun x51 =>
        Again X w49 [] [] fun w => I0 [x40, x51] w ∧ μ0 [x40, x51] w < μ0 [x40, x41] w42)) ∧ (x43 = .bool false →
      AskW X w42 [] (kb3_2 b0 b1 b2 b3 b4 b5 x6 x7 x8 x9 x10 x15 x16 x23 x24) false 18 [(.agg #[x15]), (.agg #[x16])] fun x44 w44 =>
      AskW X w44 [] (kb3_2 b0 b1 b2 b3 b4 b5 x6 x7 x8 x9 x10 x15 x16 x23 x24) false 19 [x23, x24] fun x45 w45 =>
      Ask (rBin X.P .neq 4 false false x44 x45) fun x46 =>
      AskGW X [(x46, false)] w45 [] (kb3_2 b0 b1 b2 b3 b4 b5 x6 x7 x8 x9 x10 x15 x16 x23 x24) false 20 [(.agg #[x15])] fun x47 w47 =>
      AskGW X [(x46, false)] w47 [] (kb3_2 b0 b1 b2 b3 b4 b5 x6 x7 x8 x9 x10 x15 x16 x23 x24) false 21 [x23] fun x48 w48 =>
      AskG [(x46, false)] (rBin X.P .neq 27 false false x47 x48) fun x49 =>
      Ask (rPick x46 (.bool true) x49) fun x50 =>
      AskGW X [(x50, false)] w48 [] (kb3_2 b0 b1 b2 b3 b4 b5 x6 x7 x8 x9 x10 x15 x16 x23 x24) false 22 [x15, x0] fun x51 w51 =>
      AskG [(x50, false)] (rUn X.P .not x51) fun x52 =>
      Ask (rPick x50 (.bool true) x52) fun x53 =>
      AskGW X [(x53, false)] w51 [] (kb3_2 b0 b1 b2 b3 b4 b5 x6 x7 x8 x9 x10 x15 x16 x23 x24) false 22 [x16, x1] fun x54 w54 =>
      AskG [(x53, false)] (rUn X.P .not x54) fun x55 =>
      Ask (rPick x53 (.bool true) x55) fun x56 =>
      (∃ t, x56 = .bool t) ∧ (x56 = .bool true →
        Ret X w54 [] [] (.bool false)) ∧ (x56 = .bool false →
        AskW X w54 [] (kb3_2 b0 b1 b2 b3 b4 b5 x6 x7 x8 x9 x10 x15 x16 x23 x24) false 23 [(.agg #[x15]), x10] fun x57 w57 =>
        Ask (rExt X.P x57 0) fun x58 =>
        Ask (rExt X.P x57 1) fun x59 =>
        AskNew w57 fun b6 =>
        Ask (rAgg 1 x58) fun x60 =>
        Ask (rSel (aggArr x60) 0 1 false) fun x61 =>
        Ask (rBin X.P .neq 57 false true x59 (J 50)) fun x62 =>
        AskG [(x62, false)] (rLen X.P 22 x61) fun x63 =>
        AskG [(x62, false)] (rBin X.P .neq 3 false true x63 (J 0)) fun x64 =>
        Ask (rPick x62 (.bool true) x64) fun x65 =>
        (∃ t, x65 = .bool t) ∧ (x65 = .bool true →
          Ret X w57 [b6] [] (.bool false)) ∧ (x65 = .bool false →
          Ask (rAgg 8 (.agg #[(.slice none 0 0), (.slice none 0 0), (.slice none 0 0), (.slice none 0 0), (.slice none 0 0), (.slice none 0 0), (.slice none 0 0), (.slice none 0 0)])) fun x66 =>
          AskNew w57 fun b7 =>
          Ask (rAgg 8 (.agg #[(.slice none 0 0), (.slice none 0 0), (.slice none 0 0), (.slice none 0 0), (.slice none 0 0), (.slice none 0 0), (.slice none 0 0), (.slice none 0 0)])) fun x67 =>
          AskNew w57 fun b8 =>
          ∃ (I0 : List Value → World → Prop) (μ0 : List Value → World → Nat), (∀ w, KnownV X w57 [b6] (kb3_3 b0 b1 b2 b3 b4 b5 b6 b7 b8 x6 x7 x8 x9 x10 x15 x16 x23 x24 x61 x66 x67) w → I0 [(J 0), x6, x7, x8, x9, x10, x15, x16, x23, x24, x61, x66, x67] w) ∧ ∀ x68 x69 x70 x71 x72 x73 x74 x75 x76 x77 x78 x79 x80 w81, I0 [x68, x69, x70, x71, x72, x73, x74, x75, x76, x77, x78, x79, x80] w81 →
            Ask (rBin X.P .lss 3 false true x68 (J 8)) fun x82 =>
            (∃ t, x82 = .bool t) ∧ (x82 = .bool true →
              Ask (rIad X.P 46 x33 x68) fun x83 =>
              Ask (rFad X.P 30 x83 0) fun x84 =>
              Ask (rLoad X w81 [] 22 x84) fun x85 =>
              Ask (rIx 8 x68) fun x86 =>
              Ask (rUpd (aggArr x79) (0 + intNat x86 * 1) 1 x85) fun x87 =>
              ∃ (I1 : List Value → World → Prop) (μ1 : List Value → World → Nat), (∀ w, KnownV X w81 [b7] (kb3_4 b0 b1 b2 b3 b4 b5 b6 b7 b8 x69 x70 x71 x72 x73 x74 x75 x76 x77 x78 x87 x80) w → I1 [(J 0)] w) ∧ ∀ x88 w89, I1 [x88] w89 →
                Ask (rIx 8 x68) fun x90 =>
                Ask (rSel (aggArr x87) (0 + intNat x90 * 1) 1 false) fun x91 =>
                Ask (rLen X.P 22 x91) fun x92 =>
                Ask (rBin X.P .lss 3 false false x88 x92) fun x93 =>
                (∃ t, x93 = .bool t) ∧ (x93 = .bool true →
                  Ask (rIx 8 x68) fun x94 =>
                  Ask (rSel (aggArr x87) (0 + intNat x94 * 1) 1 false) fun x95 =>
                  Ask (rBin X.P .add 3 true false (J 100) x68) fun x96 =>
                  Ask (rConv X.P 3 23 x96) fun x97 =>
                  Ask (rPlain x97) fun x98 =>
                  Ask (rIad X.P 22 x95 x88) fun x99 =>
                  AskO X w89 [] (kb3_4 b0 b1 b2 b3 b4 b5 b6 b7 b8 x69 x70 x71 x72 x73 x74 x75 x76 x77 x78 x87 x80) true (Go.Op.store 25 (Go.Operand.tmp 155) (Go.Operand.tmp 154)) 0 [(155, x99), (154, (.agg #[x98, (U 0), (U 0), (U 0)]))] fun _ w100 =>
                  Ask (rBin X.P .add 3 false true x88 (J 1)) fun x101 =>
                  Again X w100 [] [] fun w => I1 [x101] w ∧ μ1 [x101] w < μ1 [x88] w89) ∧ (x93 = .bool false →
                  Ask (rBin X.P .add 3 false true x68 (J 1)) fun x94 =>
                  Again X w89 [] [] fun w => I0 [x94, x69, x70, x71, x72, x73, x74, x75, x76, x77, x78, x87, x80] w ∧ μ0 [x94, x69, x70, x71, x72, x73, x74, x75, x76, x77, x78, x87, x80] w < μ0 [x68, x69, x70, x71, x72, x73, x74, x75, x76, x77, x78, x79, x80] w81)) ∧ (x82 = .bool false →
              ∃ (I0 : List Value → World → Prop) (μ0 : List Value → World → Nat), (∀ w, KnownV X w81 [] (kb3_5 b0 b1 b2 b3 b4 b5 b6 b7 b8 x69 x70 x71 x72 x73 x74 x75 x76 x77 x78 x79 x80) w → I0 [(J 0), x69, x70, x71, x72, x73, x74, x75, x76, x77, x78, x79, x80] w) ∧ ∀ x83 x84 x85 x86 x87 x88 x89 x90 x91 x92 x93 x94 x95 w96, I0 [x83, x84, x85, x86, x87, x88, x89, x90, x91, x92, x93, x94, x95] w96 →
                Ask (rBin X.P .lss 3 false true x83 (J 8)) fun x97 =>
                (∃ t, x97 = .bool t) ∧ (x97 = .bool true →
                  Ask (rIx 8 x83) fun x98 =>
                  Ask (rSel (aggArr x94) (0 + intNat x98 * 1) 1 false) fun x99 =>
                  Ask (rIx 8 x83) fun x100 =>
                  Ask (rUpd (aggArr x95) (0 + intNat x100 * 1) 1 x99) fun x101 =>
                  ∃ (I1 : List Value → World → Prop) (μ1 : List Value → World → Nat), (∀ w, KnownV X w96 [b8] (kb3_6 b0 b1 b2 b3 b4 b5 b6 b7 b8 x84 x85 x86 x87 x88 x89 x90 x91 x92 x93 x94 x101) w → I1 [(J 0), x101] w) ∧ ∀ x102 x103 w104, I1 [x102, x103] w104 →
                    Ask (rBin X.P .lss 3 false true x102 (J 40)) fun x105 =>
                    (∃ t, x105 = .bool t) ∧ (x105 = .bool true →
                      Ask (rIx 8 x83) fun x106 =>
                      Ask (rSel (aggArr x103) (0 + intNat x106 * 1) 1 false) fun x107 =>
                      Ask (rBin X.P .add 3 true false (J 100) x83) fun x108 =>
                      Ask (rConv X.P 3 23 x108) fun x109 =>
                      Ask (rPlain x109) fun x110 =>
                      AskO X w104 [] (kb3_7 b0 b1 b2 b3 b4 b5 b6 b7 b8 x84 x85 x86 x87 x88 x89 x90 x91 x92 x93 x94 x103) false (Go.Op.buildSlice 22 1 #[(0, Go.Operand.tmp 176)]) 22 [(176, (.agg #[x110, (U 0), (U 0), (U 0)]))] fun x111 w111 =>
                      AskO X w111 [] (kb3_7 b0 b1 b2 b3 b4 b5 b6 b7 b8 x84 x85 x86 x87 x88 x89 x90 x91 x92 x93 x94 x103) true (appOp (.tmp 172) (.tmp 177) 22) 22 [(172, x107), (177, x111)] fun x112 w112 =>
                      Ask (rIx 8 x83) fun x113 =>
                      Ask (rUpd (aggArr x103) (0 + intNat x113 * 1) 1 x112) fun x114 =>
                      Ask (rBin X.P .add 3 false true x102 (J 1)) fun x115 =>
                      Again X w112 [b8] [] fun w => I1 [x115, x114] w ∧ μ1 [x115, x114] w < μ1 [x102, x103] w104) ∧ (x105 = .bool false →
                      Ask (rBin X.P .add 3 false true x83 (J 1)) fun x106 =>
                      Again X w104 [] [] fun w => I0 [x106, x84, x85, x86, x87, x88, x89, x90, x91, x92, x93, x94, x103] w ∧ μ0 [x106, x84, x85, x86, x87, x88, x89, x90, x91, x92, x93, x94, x103] w < μ0 [x83, x84, x85, x86, x87, x88, x89, x90, x91, x92, x93, x94, x95] w96)) ∧ (x97 = .bool false →
                  ∃ (I0 : List Value → World → Prop) (μ0 : List Value → World → Nat), (∀ w, KnownV X w96 [] (kb3_8 b0 b1 b2 b3 b4 b5 b6 b7 b8 x84 x85 x86 x87 x88 x89 x90 x91 x92 x93 x94 x95) w → I0 [x40, (J 0), x84, x85, x86, x87, x88, x89, x90, x91, x92, x93, x94, x95] w) ∧ ∀ x98 x99 x100 x101 x102 x103 x104 x105 x106 x107 x108 x109 x110 x111 w112, I0 [x98, x99, x100, x101, x102, x103, x104, x105, x106, x107, x108, x109, x110, x111] w112 →
                    Ask (rBin X.P .lss 3 false true x99 (J 8)) fun x113 =>
                    (∃ t, x113 = .bool t) ∧ (x113 = .bool true →
                      ∃ (I1 : List Value → World → Prop) (μ1 : List Value → World → Nat), (∀ w, KnownV X w112 [] (kb3_9 b0 b1 b2 b3 b4 b5 b6 b7 b8 x100 x101 x102 x103 x104 x105 x106 x107 x108 x109 x110 x111) w → I1 [x98, (J 0)] w) ∧ ∀ x114 x115 w116, I1 [x114, x115] w116 →
                        Ask (rIx 8 x99) fun x117 =>
                        Ask (rSel (aggArr x111) (0 + intNat x117 * 1) 1 false) fun x118 =>
                        Ask (rLen X.P 22 x118) fun x119 =>
                        Ask (rBin X.P .lss 3 false false x115 x119) fun x120 =>
                        (∃ t, x120 = .bool t) ∧ (x120 = .bool true →
                          Ask (rIx 8 x99) fun x121 =>
                          Ask (rSel (aggArr x111) (0 + intNat x121 * 1) 1 false) fun x122 =>
                          Ask (rIad X.P 22 x122 x115) fun x123 =>
                          Ask (rLoad X w116 [] 25 x123) fun x124 =>
                          Ask (rBin X.P .add 3 true false (J 100) x99) fun x125 =>
                          Ask (rConv X.P 3 23 x125) fun x126 =>
                          Ask (rPlain x126) fun x127 =>
                          Ask (rBin X.P .neq 25 false false x124 (.agg #[x127, (U 0), (U 0), (U 0)])) fun x128 =>
                          AskG [(x128, false)] (rIx 8 x99) fun x129 =>
                          AskG [(x128, false)] (rSel (aggArr x110) (0 + intNat x129 * 1) 1 false) fun x130 =>
                          AskG [(x128, false)] (rLen X.P 22 x130) fun x131 =>
                          AskG [(x128, false)] (rBin X.P .lss 3 false false x115 x131) fun x132 =>
                          AskG [(x128, false), (x132, true)] (rIx 8 x99) fun x133 =>
                          AskG [(x128, false), (x132, true)] (rSel (aggArr x110) (0 + intNat x133 * 1) 1 false) fun x134 =>
                          AskG [(x128, false), (x132, true)] (rIad X.P 22 x134 x115) fun x135 =>
                          AskG [(x128, false), (x132, true)] (rLoad X w116 [] 25 x135) fun x136 =>
                          AskG [(x128, false), (x132, true)] (rIx 8 x99) fun x137 =>
                          AskG [(x128, false), (x132, true)] (rSel (aggArr x111) (0 + intNat x137 * 1) 1 false) fun x138 =>
                          AskG [(x128, false), (x132, true)] (rIad X.P 22 x138 x115) fun x139 =>
                          AskG [(x128, false), (x132, true)] (rLoad X w116 [] 25 x139) fun x140 =>
                          AskG [(x128, false), (x132, true)] (rBin X.P .neq 25 false false x136 x140) fun x141 =>
                          AskG [(x128, false)] (rPick x132 x141 (.bool false)) fun x142 =>
                          Ask (rPick x128 (.bool true) x142) fun x143 =>
                          (∃ t, x143 = .bool t) ∧ (x143 = .bool true →
                            Ret X w116 [] [] (.bool false)) ∧ (x143 = .bool false →
                            Ask (rBin X.P .add 3 false true x115 (J 1)) fun x144 =>
                            Again X w116 [] [] fun w => I1 [x114, x144] w ∧ μ1 [x114, x144] w < μ1 [x114, x115] w116)) ∧ (x120 = .bool false →
                          Ask (rBin X.P .add 3 false true x99 (J 1)) fun x121 =>
                          Again X w116 [] [] fun w => I0 [x114, x121, x100, x101, x102, x103, x104, x105, x106, x107, x108, x109, x110, x111] w ∧ μ0 [x114, x121, x100, x101, x102, x103, x104, x105, x106, x107, x108, x109, x110, x111] w < μ0 [x98, x99, x100, x101, x102, x103, x104, x105, x106, x107, x108, x109, x110, x111] w112)) ∧ (x113 = .bool false →
                      AskW X w112 [] (kb3_9 b0 b1 b2 b3 b4 b5 b6 b7 b8 x100 x101 x102 x103 x104 x105 x106 x107 x108 x109 x110 x111) false 22 [x105, x0] fun x114 w114 =>
                      AskGW X [(x114, true)] w114 [] (kb3_9 b0 b1 b2 b3 b4 b5 b6 b7 b8 x100 x101 x102 x103 x104 x105 x106 x107 x108 x109 x110 x111) false 22 [x106, x1] fun x115 w115 =>
                      Ask (rPick x114 x115 (.bool false)) fun x116 =>
                      AskGW X [(x116, true)] w115 [] (kb3_9 b0 b1 b2 b3 b4 b5 b6 b7 b8 x100 x101 x102 x103 x104 x105 x106 x107 x108 x109 x110 x111) false 8 [(.agg #[x105]), (.agg #[x106])] fun x117 w117 =>
                      AskGW X [(x116, true)] w117 [] (kb3_9 b0 b1 b2 b3 b4 b5 b6 b7 b8 x100 x101 x102 x103 x104 x105 x106 x107 x108 x109 x110 x111) false 12 [x107, x108] fun x118 w118 =>
                      AskGW X [(x116, true)] w118 [] (kb3_9 b0 b1 b2 b3 b4 b5 b6 b7 b8 x100 x101 x102 x103 x104 x105 x106 x107 x108 x109 x110 x111) false 17 [x117, x118] fun x119 w119 =>
                      Ask (rPick x116 x119 (.bool false)) fun x120 =>
                      Ret X w119 [] [] x120))))))) := by kernel_rfl
theorem keepsMF : Keeps1 Tryz.prog GH 3 cMF := by
  refine keepsW (T := Tmf) (A := ann3) hMix keepTmf hGH (calls_of (by kernel_rfl)) (callsW_of (by kernel_rfl)) fun args ⟨la, lb, k⟩ w0 hrd hpre hg => ?_
  obtain ⟨x, y, cs, rfl, ha, hb, hk, hcs, hone⟩ := hrd
  dsimp only at ha hb hk hpre
  replace ha : Ls encS okS w0 x la := ha
  replace hb : Ls encS okS w0 y lb := hb
  simp only [mxM] at hpre
  refine ⟨[.x (.v 0), .x (.v 1), .x (.v 2), .x (.v 3)], [], [], 5, env0 [x, y, S k, .agg cs.toArray] w0, fun b => b, 0, rfl, rfl, fun X hX => mem_none hX rfl, fun X hP hS hw hX hR => ?_⟩
  subst hw; try dsimp only at hR
  rw [vc3 X]
  refine a_agg (cs := encS k) rfl (one_encS k) ?_
  iterate 4 refine a_sel1 rfl ?_
  intro b0 hb0
  rw [show Ask (rAgg 32 (Value.agg cs.toArray)) = Ask (rAgg cs.length (Value.agg cs.toArray)) by rw [hcs]]
  refine a_agg rfl hone ?_
  intro b1 hb1
  refine call_W hX hS (T := Tmf) (f := 5) rfl (la, ()) (fun w hw => ⟨⟨_, _, rfl, (⟨ha.1.stp0 hw.stp, ha.2⟩ : Ls encS okS _ _ _), rfl⟩, by simp only [mx]; omega⟩) fun xa w1 w1' h1 k1 s1 su1 hv => ?_
  obtain ⟨hma, ga, hga, hga'⟩ := hv
  dsimp only at hma
  have hla := mk_list hma
  refine a_plain (slAt_one hla.1) ?_
  refine call_W hX hS (T := Tmf) (f := 5) rfl (lb, ()) (fun w hw => ⟨⟨_, _, rfl, (⟨hb.1.stp0 (hw.kn.stp0 hX), hb.2⟩ : Ls encS okS _ _ _), rfl⟩, by simp only [mx]; omega⟩) fun xb w2 w2' h2 k2 s2 su2 hv => ?_
  obtain ⟨hmb, gb, hgb, hgb'⟩ := hv
  dsimp only at hmb
  have hlb := mk_list hmb
  refine a_plain (slAt_one hlb.1) ?_
  intro b2 hb2 b3 hb3
  refine a_plain (slAt_one hla.1) ?_
  refine a_plain (slAt_one hlb.1) ?_
  have hrA : ∀ {w}, Kn X w → Ls encS okS w x la := fun hk => ⟨ha.1.stp0 (hk.stp0 hX), ha.2⟩
  have hrB : ∀ {w}, Kn X w → Ls encS okS w y lb := fun hk => ⟨hb.1.stp0 (hk.stp0 hX), hb.2⟩
  have okm : ∀ {l : List Nat}, ∀ z ∈ modL l, okS z := fun z hz => Nat.lt_trans (modL_lt _ z hz) (by decide)
  have lnm : ∀ {l : List Nat}, (modL l).length = l.length := by simp [modL]
  refine call_W hX hS (T := Tmf) (f := 7) rfl (la, ()) (fun w hw => ⟨⟨_, _, rfl, hrA hw.kn, rfl⟩, by simp only [mx]; omega⟩) fun x3 w3 w3' h3 k3 s3 su3 o3 => ?_
  dsimp only at o3
  refine call_W hX hS (T := Tmf) (f := 6) rfl (modL la, ()) (fun w hw => ⟨⟨_, _, rfl, (⟨by rw [lnm]; exact (own_slAt o3).stp0 hw.stp, okm⟩ : Ls encS okS _ _ _), rfl⟩, by rw [lnm]; simp only [mx]; omega⟩) fun x4 w4 w4' h4 k4 s4 su4 t4 => ?_
  obtain ⟨e4, rfl, o4⟩ := t4
  dsimp only at o4
  refine call_W hX hS (T := Tmf) (f := 7) rfl (lb, ()) (fun w hw => ⟨⟨_, _, rfl, hrB hw.kn, rfl⟩, by simp only [mx]; omega⟩) fun x5 w5 w5' h5 k5 s5 su5 o5 => ?_
  dsimp only at o5
  refine call_W hX hS (T := Tmf) (f := 6) rfl (modL lb, ()) (fun w hw => ⟨⟨_, _, rfl, (⟨by rw [lnm]; exact (own_slAt o5).stp0 hw.stp, okm⟩ : Ls encS okS _ _ _), rfl⟩, by rw [lnm]; simp only [mx]; omega⟩) fun x6 w6 w6' h6 k6 s6 su6 t6 => ?_
  obtain ⟨e6, rfl, o6⟩ := t6
  dsimp only at o6
  refine a_agg (cs := zE) rfl rfl ?_
  intro b4 hb4
  refine a_agg (cs := zE) rfl rfl ?_
  intro b5 hb5
  refine a_agg (cs := encEL e4) rfl (one_encEL (own_one o4)) ?_
  refine a_agg (cs := encEL e6) rfl (one_encEL (own_one o6)) ?_
  have n32 : ∀ b ∈ [b3, b2], w2'.heap.size ≤ b := fun b hb => by simp at hb; omega
  have n54 : ∀ b ∈ [b5, b4], w6'.heap.size ≤ b := fun b hb => by simp at hb; omega
  have lA6 : Ls encS okS w6' xa la := ⟨(((slAt_stpN (hla.1.stp0 su2) su3 n32).stp0 su4).stp0 su5).stp0 su6, hla.2⟩
  have lB6 : Ls encS okS w6' xb lb := ⟨(((slAt_stpN hlb.1 su3 n32).stp0 su4).stp0 su5).stp0 su6, hlb.2⟩
  have e46 := own_stp0 (own_stp0 o4 su5) su6
  refine call_W hX hS (T := Tmf) (f := 8) rfl (la, lb) (fun w hw => ⟨⟨xa, xb, rfl, ⟨slAt_stpN lA6.1 hw.stp n54, lA6.2⟩, ⟨slAt_stpN lB6.1 hw.stp n54, lB6.2⟩⟩, by simp only [mx]; omega, by simp only [mx]; omega⟩) fun v7 w7 w7' h7 k7 s7 su7 t7 => ?_
  have lA7 : Ls encS okS w7' xa la := ⟨slAt_stpN lA6.1 su7 n54, lA6.2⟩
  have lB7 : Ls encS okS w7' xb lb := ⟨slAt_stpN lB6.1 su7 n54, lB6.2⟩
  refine call_W hX hS (T := Tmf) (f := 9) rfl la (fun w hw => ⟨⟨xa, rfl, ⟨lA7.1.stp0 hw.stp, lA7.2⟩⟩, by simp only [mx]; omega⟩) fun v8 w8 w8' h8 k8 s8 su8 t8 => ?_
  have lA8 : Ls encS okS w8' xa la := ⟨lA7.1.stp0 su8, lA7.2⟩
  refine call_W hX hS (T := Tmf) (f := 10) rfl la (fun w hw => ⟨⟨xa, rfl, ⟨lA8.1.stp0 hw.stp, lA8.2⟩⟩, by simp only [mx]; omega⟩) fun v9 w9 w9' h9 k9 s9 su9 t9 => ?_
  have lA9 : Ls encS okS w9' xa la := ⟨lA8.1.stp0 su9, lA8.2⟩
  have lB9 : Ls encS okS w9' xb lb := ⟨(lB7.1.stp0 su8).stp0 su9, lB7.2⟩
  refine call_W hX hS (T := Tmf) (f := 11) rfl (la, k) (fun w hw => ⟨⟨xa, rfl, ⟨lA9.1.stp0 hw.stp, lA9.2⟩, hk⟩, by simp only [mx]; omega⟩) fun v10 w10 w10' h10 k10 s10 su10 t10 => ?_
  have lA10 : Ls encS okS w10' xa la := ⟨lA9.1.stp0 su10, lA9.2⟩
  have lB10 : Ls encS okS w10' xb lb := ⟨lB9.1.stp0 su10, lB9.2⟩
  refine call_W hX hS (T := Tmf) (f := 8) rfl (la, lb) (fun w hw => ⟨⟨xa, xb, rfl, ⟨lA10.1.stp0 hw.stp, lA10.2⟩, ⟨lB10.1.stp0 hw.stp, lB10.2⟩⟩, by simp only [mx]; omega, by simp only [mx]; omega⟩) fun v11 w11 w11' h11 k11 s11 su11 t11 => ?_
  have lA11 : Ls encS okS w11' xa la := ⟨lA10.1.stp0 su11, lA10.2⟩
  refine call_W hX hS (T := Tmf) (f := 9) rfl la (fun w hw => ⟨⟨xa, rfl, ⟨lA11.1.stp0 hw.stp, lA11.2⟩⟩, by simp only [mx]; omega⟩) fun v12 w12 w12' h12 k12 s12 su12 t12 => ?_
  have lA12 : Ls encS okS w12' xa la := ⟨lA11.1.stp0 su12, lA11.2⟩
  refine call_W hX hS (T := Tmf) (f := 10) rfl la (fun w hw => ⟨⟨xa, rfl, ⟨lA12.1.stp0 hw.stp, lA12.2⟩⟩, by simp only [mx]; omega⟩) fun v13 w13 w13' h13 k13 s13 su13 t13 => ?_
  have lA13 : Ls encS okS w13' xa la := ⟨lA12.1.stp0 su13, lA12.2⟩
  refine call_W hX hS (T := Tmf) (f := 11) rfl (la, k) (fun w hw => ⟨⟨xa, rfl, ⟨lA13.1.stp0 hw.stp, lA13.2⟩, hk⟩, by simp only [mx]; omega⟩) fun v14 w14 w14' h14 k14 s14 su14 t14 => ?_
  obtain ⟨y7, rfl, r7⟩ := t7
  obtain ⟨y8, rfl, r8⟩ := t8
  obtain ⟨y9, rfl, r9⟩ := t9
  obtain ⟨y10, rfl, r10⟩ := t10
  obtain ⟨y11, rfl, r11⟩ := t11
  obtain ⟨y12, rfl, r12⟩ := t12
  obtain ⟨y13, rfl, r13⟩ := t13
  obtain ⟨y14, rfl, r14⟩ := t14
  dsimp only at r7 r8 r9 r10 r11 r12 r13 r14
  refine a_build #[y7, y8, y9, y10, y11, y12, y13, y14] hX hP tyFs (by decide) (by decide) (by kernel_rfl) rfl (by decide) fun g15 w15 w15' h15 k15 s15 su15 o15 => ?_
  have tm : ∀ {l : List Nat} {z : Nat}, z ∈ trim (modL l) → z < lN := fun {l z} hz => modL_lt l z (by rw [← trim_pre] at hz; exact List.mem_of_mem_take hz)
  have c4 : Ls encS okS w15' e4 (trim (modL la)) := ⟨(((((((((slAt_stpN (((own_slAt o4).stp0 su5).stp0 su6) su7 n54).stp0 su8).stp0 su9).stp0 su10).stp0 su11).stp0 su12).stp0 su13).stp0 su14).stp0 su15), fun z hz => Nat.lt_trans (tm hz) (by decide)⟩
  have c6 : Ls encS okS w15' e6 (trim (modL lb)) := ⟨(((((((((slAt_stpN (own_slAt o6) su7 n54).stp0 su8).stp0 su9).stp0 su10).stp0 su11).stp0 su12).stp0 su13).stp0 su14).stp0 su15), fun z hz => Nat.lt_trans (tm hz) (by decide)⟩
  have nA : (trim (modL la)).length ≤ 4194304 := Nat.le_trans (trim_len _) (by rw [lnm]; omega)
  have nB : (trim (modL lb)).length ≤ 4194304 := Nat.le_trans (trim_len _) (by rw [lnm]; omega)
  refine call_W hX hS (T := Tmf) (f := 12) rfl (trim (modL la), trim (modL lb)) (fun w hw => ⟨⟨e4, e6, rfl, ⟨c4.1.stp0 hw.stp, c4.2⟩, ⟨c6.1.stp0 hw.stp, c6.2⟩⟩, ⟨nA, nB⟩, fun _ => tm, fun _ => tm⟩) fun v16 w16 w16' h16 k16 s16 su16 t16 => ?_
  refine call_W hX hS (T := Tmf) (f := 13) rfl (trim (modL la)) (fun w hw => ⟨⟨e4, rfl, ⟨(c4.1.stp0 su16).stp0 hw.stp, c4.2⟩⟩, nA⟩) fun v17 w17 w17' h17 k17 s17 su17 t17 => ?_
  refine call_W hX hS (T := Tmf) (f := 14) rfl (trim (modL la)) (fun w hw => ⟨⟨e4, rfl, ⟨((c4.1.stp0 su16).stp0 su17).stp0 hw.stp, c4.2⟩⟩, nA, fun _ => tm⟩) fun v18 w18 w18' h18 k18 s18 su18 t18 => ?_
  refine call_PE hS (T := Tmf) (f := 16) rfl k hk ?_
  refine call_W hX hS (T := Tmf) (f := 15) rfl (trim (modL la), k % lN) (fun w hw => ⟨⟨e4, rfl, ⟨(((c4.1.stp0 su16).stp0 su17).stp0 su18).stp0 hw.stp, c4.2⟩, Nat.lt_trans (Nat.mod_lt _ (by decide)) (by decide)⟩, nA⟩) fun v19 w19 w19' h19 k19 s19 su19 t19 => ?_
  obtain ⟨p16, rfl, r16⟩ := t16
  obtain ⟨p17, rfl, r17⟩ := t17
  obtain ⟨p18, rfl, r18⟩ := t18
  obtain ⟨p19, rfl, r19⟩ := t19
  dsimp only at r16 r17 r18 r19
  refine a_build (encEL p16 ++ encEL p17 ++ encEL p18 ++ encEL p19).toArray hX hP tyE (by decide) (by decide) (by kernel_rfl) rfl (by decide) fun g20 w20 w20' h20 k20 s20 su20 o20 => ?_
  -- what is known from here on
  have hN : ∀ j, j < 4 → (wantL la lb k j).length ≤ 1048576 := wantL_len la lb k hpre.1 hpre.2
  have hLt : ∀ j, j < 4 → ∀ x ∈ wantL la lb k j, x < lN := wantL_lt la lb k
  have hOk : ∀ j, j < 4 → ∀ x ∈ wantL la lb k j, okS x := fun j hj x hx => Nat.lt_trans (hLt j hj x hx) (by decide)
  rw [told_add la lb k] at r7 r11
  rw [told_neg la lb k] at r8 r12
  rw [told_dbl la lb k] at r9 r13
  rw [told_tim la lb k] at r10 r14
  have e15 : Stp [] w15' w20' := su16.trans0 (su17.trans0 (su18.trans0 (su19.trans0 su20)))
  have e14 : Stp [] w14' w20' := su15.trans0 e15
  have e13 : Stp [] w13' w20' := su14.trans0 e14
  have e12 : Stp [] w12' w20' := su13.trans0 e13
  have e11 : Stp [] w11' w20' := su12.trans0 e12
  have e10 : Stp [] w10' w20' := su11.trans0 e11
  have e9 : Stp [] w9' w20' := su10.trans0 e10
  have e8 : Stp [] w8' w20' := su9.trans0 e9
  have e7 : Stp [] w7' w20' := su8.trans0 e8
  have e60 : Stp [] w6' w20' := (su7.trans e7).drop (by simpa using n54)
  have z6 := h7.size
  have z7 := s7.size
  have z8 := s8.size
  have z9 := s9.size
  have z10 := s10.size
  have z11 := s11.size
  have z12 := s12.size
  have z13 := s13.size
  have z14 := s14.size
  have y8z := h8.size
  have y9z := h9.size
  have y10z := h10.size
  have y11z := h11.size
  have y12z := h12.size
  have y13z := h13.size
  have y14z := h14.size
  have y15z := h15.size
  obtain ⟨Y, hY⟩ : ∃ Y : Nat → Value, Y = fun j => [y7, y8, y9, y10, y11, y12, y13, y14].getD j undef := ⟨_, rfl⟩
  obtain ⟨Pv, hPv⟩ : ∃ Y : Nat → Value, Y = fun j => [p16, p17, p18, p19].getD j undef := ⟨_, rfl⟩
  have hrow : ∀ j, j < 8 → w20'.ownsRow w6'.heap.size 25 4 (Y j) (toldL la lb k j).length ((toldL la lb k j).flatMap encS) := by
    subst hY
    exact all8 (own_mono (own_stp0 r7 e7) (by omega)) (own_mono (own_stp0 r8 e8) (by omega)) (own_mono (own_stp0 r9 e9) (by omega)) (own_mono (own_stp0 r10 e10) (by omega)) (own_mono (own_stp0 r11 e11) (by omega)) (own_mono (own_stp0 r12 e12) (by omega)) (own_mono (own_stp0 r13 e13) (by omega)) (own_mono (own_stp0 r14 e14) (by omega))
  have hap : Apart Y := by
    subst hY
    exact apart_of (B := fun j => [w7.heap.size, w8.heap.size, w9.heap.size, w10.heap.size, w11.heap.size, w12.heap.size, w13.heap.size, w14.heap.size, w14'.heap.size].getD j 0)
      (all8 (fun g hg => ⟨(r7.lt g hg).1, Nat.lt_of_lt_of_le (r7.lt g hg).2 y8z⟩) (fun g hg => ⟨(r8.lt g hg).1, Nat.lt_of_lt_of_le (r8.lt g hg).2 y9z⟩) (fun g hg => ⟨(r9.lt g hg).1, Nat.lt_of_lt_of_le (r9.lt g hg).2 y10z⟩) (fun g hg => ⟨(r10.lt g hg).1, Nat.lt_of_lt_of_le (r10.lt g hg).2 y11z⟩)
        (fun g hg => ⟨(r11.lt g hg).1, Nat.lt_of_lt_of_le (r11.lt g hg).2 y12z⟩) (fun g hg => ⟨(r12.lt g hg).1, Nat.lt_of_lt_of_le (r12.lt g hg).2 y13z⟩) (fun g hg => ⟨(r13.lt g hg).1, Nat.lt_of_lt_of_le (r13.lt g hg).2 y14z⟩) (fun g hg => r14.lt g hg))
      (all8 (Nat.le_trans z7 y8z) (Nat.le_trans z8 y9z) (Nat.le_trans z9 y10z) (Nat.le_trans z10 y11z) (Nat.le_trans z11 y12z) (Nat.le_trans z12 y13z) (Nat.le_trans z13 y14z) z14)
  have hYlt : ∀ j, j < 8 → ∀ g, (Y j).ownBlock = some g → g < w14'.heap.size := by
    have a8 := Nat.le_trans y8z z8; have a9 := Nat.le_trans y9z z9; have a10 := Nat.le_trans y10z z10; have a11 := Nat.le_trans y11z z11; have a12 := Nat.le_trans y12z z12; have a13 := Nat.le_trans y13z z13; have a14 := Nat.le_trans y14z z14
    subst hY
    exact all8 (fun g hg => by have := (r7.lt g hg).2; omega) (fun g hg => by have := (r8.lt g hg).2; omega) (fun g hg => by have := (r9.lt g hg).2; omega) (fun g hg => by have := (r10.lt g hg).2; omega) (fun g hg => by have := (r11.lt g hg).2; omega) (fun g hg => by have := (r12.lt g hg).2; omega) (fun g hg => by have := (r13.lt g hg).2; omega) (fun g hg => (r14.lt g hg).2)
  have told : SlAt w20' (.slice (some ⟨g15, 0, none⟩) 8 8) 8 (arr8 Y) := by
    subst hY; exact (own_slAt o15).stp0 e15
  have g15z : w14'.heap.size ≤ g15 := Nat.le_trans y15z (o15.lt g15 rfl).1
  have want : SlAt w20' (.slice (some ⟨g20, 0, none⟩) 4 4) 4 ((List.map Pv [0, 1, 2, 3]).flatMap encEL) := by
    subst hPv
    have := own_slAt o20
    simpa using this
  have hM : ∀ j, j < 4 → SlAt w20' (Pv j) (wantL la lb k j).length ((wantL la lb k j).flatMap encS) := by
    subst hPv
    exact all4 ((own_slAt r16).stp0 (su17.trans0 (su18.trans0 (su19.trans0 su20)))) ((own_slAt r17).stp0 (su18.trans0 (su19.trans0 su20))) ((own_slAt r18).stp0 (su19.trans0 su20)) ((own_slAt r19).stp0 su20)
  have d2 : Stp [] w2' w6' := (su3.trans (su4.trans0 (su5.trans0 su6))).drop (by simpa using n32)
  have mA := cMk_stable _ _ _ _ (su2.trans0 d2) hma
  have mB := cMk_stable _ _ _ _ d2 hmb
  have E4 : Ls encS okS w6' e4 (trim (modL la)) := ⟨own_slAt e46, fun z hz => Nat.lt_trans (tm hz) (by decide)⟩
  have E6 : Ls encS okS w6' e6 (trim (modL lb)) := ⟨own_slAt o6, fun z hz => Nat.lt_trans (tm hz) (by decide)⟩
  have hx0 : X.w0.heap.size ≤ w6'.heap.size := k6.sz0
  have b0z : b0 < w7.heap.size := h7.low (by simp [kb3_2])
  have b1z : b1 < w7.heap.size := h7.low (by simp [kb3_2])
  have b2z : b2 < w7.heap.size := h7.low (by simp [kb3_2])
  have b3z : b3 < w7.heap.size := h7.low (by simp [kb3_2])
  have b4z : b4 < w7.heap.size := h7.low (by simp [kb3_2])
  have b5z : b5 < w7.heap.size := h7.low (by simp [kb3_2])
  have hYge : ∀ j, j < 8 → ∀ g, (Y j).ownBlock = some g → w7.heap.size ≤ g := by
    subst hY
    exact all8 (fun g hg => (r7.lt g hg).1) (fun g hg => by have := (r8.lt g hg).1; omega) (fun g hg => by have := (r9.lt g hg).1; omega) (fun g hg => by have := (r10.lt g hg).1; omega) (fun g hg => by have := (r11.lt g hg).1; omega) (fun g hg => by have := (r12.lt g hg).1; omega) (fun g hg => by have := (r13.lt g hg).1; omega) (fun g hg => by have := (r14.lt g hg).1; omega)
  have lenW : ∀ i, (toldL la lb k i).length ≤ 1048576 := fun i => hN _ (Nat.mod_lt i (by decide))
  have okW : ∀ i, ∀ x ∈ toldL la lb k i, okS x := fun i => hOk _ (Nat.mod_lt i (by decide))
  refine ⟨fun a w => ∃ i, a = [.bool false, J i] ∧ i ≤ 8 ∧ Stp [] w20' w ∧ Kn X w, fun a _ => match a with | [_, i] => 8 - intNat i | _ => 0, fun w hw => ⟨0, rfl, Nat.zero_le _, hw.stp, hw.kn⟩, ?_⟩
  rintro _ _ w ⟨i, he, hi, hs, hk0⟩
  simp only [List.cons.injEq, and_true] at he
  obtain ⟨rfl, rfl⟩ := he
  rw [ask_lssN]
  refine a_ifD (fun hlt => ?_) fun hge => ?_
  · have h4 : i % 4 < 4 := Nat.mod_lt i (by decide)
    refine a_iadN hP tyFs (told.stp0 hs) hlt ?_
    refine a_load_agg (cs := [Y i]) hk0 (told.stp0 hs) (hP ▸ aggFr) (by rw [hP]; exact szFr) (fun _ _ => List.not_mem_nil) (by simp) (fun j c hj => by
      match j, hj with
      | 0, hj => simp at hj; subst hj; simpa using arr8_get Y i hlt) ?_
    rw [ask_remN (by decide)]
    refine a_iadN hP tyE (want.stp0 hs) h4 ?_
    refine a_load_agg (cs := encEL (Pv (i % 4))) hk0 (want.stp0 hs) (hP ▸ aggE) (by rw [hP]; exact szE) (fun _ _ => List.not_mem_nil) (by simp [encEL]) (flat_at encEL_len (List.map Pv [0, 1, 2, 3]) (i % 4) _ (all4 (p := fun j => (List.map Pv [0, 1, 2, 3])[j]? = some (Pv j)) rfl rfl rfl rfl _ h4)) ?_
    refine call_W hX hS (T := Tmf) (f := 17) rfl (toldL la lb k i, wantL la lb k (i % 4)) (fun w2 hw => ⟨⟨Y i, Pv (i % 4), rfl, ⟨((own_slAt (hrow i hlt)).stp0 hs).stp0 hw.stp, okW i⟩, ⟨((hM _ h4).stp0 hs).stp0 hw.stp, hOk _ h4⟩⟩, by have := lenW i; simp only [mx]; omega, by have := hN _ h4; simp only [mx]; omega⟩) fun v21 w21 w21' h21 k21 s21 su21 hv => ?_
    dsimp only at hv
    rw [decide_eq_true (show toldL la lb k i = wantL la lb k (i % 4) from rfl)] at hv
    subst hv
    rw [ask_not, Bool.not_true]
    refine a_if (fun h => by cases h) fun _ => ?_
    rw [ask_succ (by omega)]
    intro w2 hw2
    exact ⟨⟨i + 1, rfl, hlt, hs.trans0 (su21.trans0 hw2.stp), hw2.kn⟩, by simp [intNat]; omega⟩
  have hs6 := e60.trans0 hs
  have lA : ∀ {w2}, Stp [] w6' w2 → Ls encS okS w2 xa la := fun h => mk_list (cMk_stable _ _ _ _ h mA)
  have lB : ∀ {w2}, Stp [] w6' w2 → Ls encS okS w2 xb lb := fun h => mk_list (cMk_stable _ _ _ _ h mB)
  refine call_W hX hS (T := Tmf) (f := 18) rfl (la, lb) (fun w2 hw => ⟨⟨xa, xb, rfl, lA (hs6.trans0 hw.stp), lB (hs6.trans0 hw.stp)⟩, by simp only [mx]; omega, by simp only [mx]; omega⟩) fun v22 w22 w22' h22 k22 s22 su22 hv => ?_
  obtain ⟨t, rfl, ht⟩ := hv
  dsimp only at ht
  have hs7 := hs6.trans0 su22
  refine call_W hX hS (T := Tmf) (f := 19) rfl (trim (modL la), trim (modL lb)) (fun w2 hw => ⟨⟨e4, e6, rfl, E4.stp0 (hs7.trans0 hw.stp), E6.stp0 (hs7.trans0 hw.stp)⟩, by simpa only [mx] using nA, by simpa only [mx] using nB⟩) fun v23 w23 w23' h23 k23 s23 su23 hv => ?_
  dsimp only at hv
  subst hv
  have htt : t = decide (trim (modL la) = trim (modL lb)) := by rw [Bool.eq_iff_iff, decide_eq_true_iff, ht, law_same]
  refine a_neqBoolF hP ?_
  rw [← htt, bne_self_eq_false]
  have hs8 := hs7.trans0 su23
  refine a_GW_on condsV1 (call_W hX hS (T := Tmf) (f := 20) rfl la (fun w2 hw => ⟨⟨xa, rfl, lA (hs8.trans0 hw.stp)⟩, by simp only [mx]; omega⟩) fun v24 w24 w24' h24 k24 s24 su24 hv => ?_)
  rw [encF_half] at hv
  subst hv
  have hs9 := hs8.trans0 su24
  refine a_GW_on condsV1 (call_W hX hS (T := Tmf) (f := 21) rfl (trim (modL la)) (fun w2 hw => ⟨⟨e4, rfl, E4.stp0 (hs9.trans0 hw.stp)⟩, by simpa only [mx] using nA⟩) fun v25 w25 w25' h25 k25 s25 su25 hv => ?_)
  subst hv
  have hs10 := hs9.trans0 su25
  refine a_G_on condsV1 (a_neqHF hP ?_)
  rw [ask_pickF]
  refine a_GW_on condsV1 (call_W hX hS (T := Tmf) (f := 22) rfl (la, la, ()) (fun w2 hw => ⟨⟨_, _, rfl, cMk_stable _ _ _ _ (hs10.trans0 hw.stp) mA, _, _, rfl, hrA hw.kn, rfl⟩, rfl, by simp only [mx]; omega⟩) fun v26 w26 w26' h26 k26 s26 su26 hv => ?_)
  subst hv
  have hs11 := hs10.trans0 su26
  refine a_G_on condsV1 ?_
  rw [ask_not, Bool.not_true, ask_pickF]
  refine a_GW_on condsV1 (call_W hX hS (T := Tmf) (f := 22) rfl (lb, lb, ()) (fun w2 hw => ⟨⟨_, _, rfl, cMk_stable _ _ _ _ (hs11.trans0 hw.stp) mB, _, _, rfl, hrB hw.kn, rfl⟩, rfl, by simp only [mx]; omega⟩) fun v27 w27 w27' h27 k27 s27 su27 hv => ?_)
  subst hv
  have hs12 := hs11.trans0 su27
  refine a_G_on condsV1 ?_
  rw [ask_not, Bool.not_true, ask_pickF]
  refine a_if (fun h => by cases h) fun _ => ?_
  refine call_W hX hS (T := Tmf) (f := 23) rfl () (fun w2 hw => ⟨⟨xa, cs, rfl, slAt_one hla.1, hcs, hone⟩, trivial⟩) fun v28 w28 w28' h28 k28 s28 su28 hv => ?_
  subst hv
  have hs13 := hs12.trans0 su28
  have hsW : Stp [] w20' w28' := hs.trans0 (su22.trans0 (su23.trans0 (su24.trans0 (su25.trans0 (su26.trans0 (su27.trans0 su28))))))
  rw [ask_ext (v := .agg #[.slice none 0 0]) rfl, ask_ext (v := J 50) rfl]
  intro b6 hb6
  refine a_agg (cs := [.slice none 0 0]) rfl rfl (a_sel1 rfl ?_)
  rw [ask_neqN, decide_eq_true rfl, Bool.not_true]
  refine a_G_on condsV1 (a_lenV hP tyS' ?_)
  refine a_G_on condsV1 ?_
  rw [ask_neqN, decide_eq_true rfl, Bool.not_true, ask_pickF]
  refine a_if (fun h => by cases h) fun _ => ?_
  refine a_agg (cs := arr8 fun _ => .slice none 0 0) rfl rfl ?_
  intro b7 hb7
  refine a_agg (cs := arr8 fun _ => .slice none 0 0) rfl rfl ?_
  intro b8 hb8
  -- the lists are written over
  have zW : w14'.heap.size ≤ w28'.heap.size := Nat.le_trans (e14.trans0 hsW).size (Nat.le_refl _)
  have z67 : w6'.heap.size ≤ w7.heap.size := h7.size
  have z714 : w7.heap.size ≤ w14'.heap.size := by omega
  have g15W : g15 < w28'.heap.size := Nat.lt_of_lt_of_le (o15.lt g15 rfl).2 (e15.trans0 hsW).size
  have offY : ∀ j, j < 8 → ∀ g, (Y j).ownBlock = some g → (b0 < g ∧ b1 < g ∧ b2 < g ∧ b3 < g ∧ b4 < g ∧ b5 < g) ∧ g < b6 ∧ g < b7 ∧ g < b8 := fun j hj g hg => by
    have h1 := hYge j hj g hg
    have h2 := hYlt j hj g hg
    omega
  have told28 := told.stp0 hsW
  have ph0 : Ph1 w6' w28' Y (overL (toldL la lb k) 0 0) := ⟨hs13, fun j hj => by rw [overL_zero]; exact own_stp0 (hrow j hj) hsW⟩
  refine ⟨fun a w => ∃ i, a = [J i, U (Vc.lb k 0), U (Vc.lb k 1), U (Vc.lb k 2), U (Vc.lb k 3), .agg cs.toArray, xa, xb, EL e4, EL e6, .slice none 0 0, .agg (arr8 fun j => if j < i then Y j else .slice none 0 0).toArray, .agg (arr8 fun _ => .slice none 0 0).toArray] ∧ i ≤ 8 ∧ Kn X w ∧ Ph1 w6' w Y (overL (toldL la lb k) i 0) ∧ SlAt w (.slice (some ⟨g15, 0, none⟩) 8 8) 8 (arr8 Y) ∧ w28'.heap.size ≤ w.heap.size,
    fun a _ => match a with | i :: _ => 8 - intNat i | _ => 0,
    fun w hw => ⟨0, rfl, Nat.zero_le _, hw.kn, ph0.stpX hw.stp (by simp; omega) (fun j hj g hg => by have := offY j hj g hg; simp; omega), told28.stp hw.stp (fun b hb => by cases hb; simp; omega), hw.size⟩, ?_⟩
  rintro _ _ _ _ _ _ _ _ _ _ _ _ _ w ⟨i, he, hi8, hkw, ph, tw, szw⟩
  simp only [List.cons.injEq, and_true] at he
  obtain ⟨rfl, rfl, rfl, rfl, rfl, rfl, hxa, hxb, rfl, rfl, rfl, rfl, rfl⟩ := he
  replace hxa := hxa.symm
  replace hxb := hxb.symm
  subst hxa
  subst hxb
  rw [ask_lssN]
  refine a_ifD (fun hlt => ?_) fun hge => ?_
  · refine a_iadN hP tyFs tw hlt ?_
    refine a_fad tw (by decide) hP fdFree ?_
    refine a_load_one hkw tw (by rw [hP]; exact aggLS) (fun _ _ => List.not_mem_nil) (by simpa using arr8_get Y i hlt) ?_
    refine a_ix8 hlt ?_
    refine a_upd8 hlt (own_cells (hrow i hlt)) (own_one (hrow i hlt)) ?_
    rw [arr8_congr (g := fun j => if j < i + 1 then Y j else .slice none 0 0) fun j hj => by
      by_cases h1 : j = i
      · subst h1; simp
      · simp only [h1, if_false]
        by_cases h2 : j < i
        · rw [if_pos h2, if_pos (by omega)]
        · rw [if_neg h2, if_neg (by omega)]]
    refine ⟨fun a w => ∃ m, a = [J m] ∧ m ≤ (toldL la lb k i).length ∧ Kn X w ∧ Ph1 w6' w Y (overL (toldL la lb k) i m) ∧ SlAt w (.slice (some ⟨g15, 0, none⟩) 8 8) 8 (arr8 Y) ∧ w28'.heap.size ≤ w.heap.size,
      fun a _ => match a with | [m] => (toldL la lb k i).length - intNat m | _ => 0,
      fun w2 hw => ⟨0, rfl, Nat.zero_le _, hw.kn, ph.stpX hw.stp (by simp; omega) (fun j hj g hg => by have := offY j hj g hg; simp; omega), tw.stp hw.stp (fun b hb => by cases hb; simp; omega), Nat.le_trans szw hw.size⟩, ?_⟩
    rintro _ w2 ⟨m, he, hm, hk2, ph2, tw2, sz2⟩
    simp only [List.cons.injEq, and_true] at he
    subst he
    have hsel : (if i < i + 1 then Y i else (.slice none 0 0 : Value)) = Y i := if_pos (Nat.lt_succ_self i)
    refine a_ix8 hlt (a_sel8v hlt hsel ?_)
    have row := ph2.row i hlt
    have hl := overL_len (toldL la lb k) i m i hm
    have lw := lenW i
    rw [hl] at row
    refine a_len hP tyS' (own_slAt row) ?_
    rw [ask_lssN]
    refine a_ifD (fun hlt2 => ?_) fun hge2 => ?_
    · refine a_ix8 hlt (a_sel8v hlt hsel ?_)
      rw [ask_addN (by omega)]
      refine a_j2uF hP (by simp only [B64]; omega) (a_plain rfl ?_)
      rw [S100 i hlt]
      refine a_iadN hP tyS' (own_slAt row) hlt2 ?_
      refine a_store (vs := encS (100 + i)) hX hP szS rfl rfl rfl rfl (one_encS _) row hx0 (by omega) (by decide) (fun _ _ => List.not_mem_nil) (fun _ _ g hg => by have := offY i hlt g hg; simp [kb3_4]; omega) fun _ w3 w3' h3' k3' s3' su3' o3' => ?_
      rw [ask_succ (by omega)]
      intro w4 hw4
      rw [lset_flat encS_len _ _ _ (by rw [hl]; exact hlt2)] at o3'
      have phn : Ph1 w6' w3' Y (overL (toldL la lb k) i (m + 1)) := (ph2.put hap hlt (m := (overL (toldL la lb k) i m i).set m (100 + i)) (by simpa using su3') (by rw [List.length_set, hl]; exact o3')).congr fun j _ => overL_set _ _ _ _ hlt2
      refine ⟨⟨m + 1, rfl, hlt2, hw4.kn, phn.stp hw4.stp, (tw2.stp su3' fun b hb hm => ?_).stp0 hw4.stp, Nat.le_trans sz2 (Nat.le_trans su3'.size hw4.size)⟩, by simp [intNat]; omega⟩
      cases hb
      have := hYlt i hlt g15 (mem_own (by simpa using hm))
      omega
    · obtain rfl : m = (toldL la lb k i).length := by omega
      rw [ask_succ (by omega)]
      intro w4 hw4
      exact ⟨⟨i + 1, rfl, hlt, hw4.kn, (ph2.congr fun j _ => overL_next _ _ _).stp hw4.stp, tw2.stp0 hw4.stp, Nat.le_trans sz2 hw4.size⟩, by simp [intNat]; omega⟩
  obtain rfl : i = 8 := by omega
  rw [arr8_congr (g := Y) fun j hj => if_pos hj]
  -- and appended to
  obtain ⟨n, hn⟩ : ∃ n : Nat → Nat, n = fun j => (toldL la lb k j).length := ⟨_, rfl⟩
  have hnl : ∀ j, n j ≤ 1048576 := fun j => by subst hn; exact lenW j
  obtain ⟨nb, hnb⟩ : ∃ nb : List Nat, nb = [b0, b1, b2, b3, b4, b5, b6, b7, b8] := ⟨_, rfl⟩
  have c0 : Ph2 w6' w nb Y Y n (moreN n 0 0) (100 + ·) := by
    rw [moreN_zero]
    refine ph2_of (ph.congr fun j hj => ?_) hap fun j hj g hg => by have := offY j hj g hg; subst hnb; simp; omega
    subst hn
    unfold overL
    rw [if_pos hj]
  refine ⟨fun a w => ∃ i V, a = [J i, U (Vc.lb k 0), U (Vc.lb k 1), U (Vc.lb k 2), U (Vc.lb k 3), .agg cs.toArray, xa, xb, EL e4, EL e6, .slice none 0 0, .agg (arr8 Y).toArray, .agg (arr8 fun j => if j < i then V j else .slice none 0 0).toArray] ∧ i ≤ 8 ∧ Kn X w ∧ Ph2 w6' w nb Y V n (moreN n i 0) (100 + ·) ∧ (∀ j, i ≤ j → j < 8 → V j = Y j) ∧ w28'.heap.size ≤ w.heap.size,
    fun a _ => match a with | i :: _ => 8 - intNat i | _ => 0,
    fun w2 hw => ⟨0, Y, rfl, Nat.zero_le _, hw.kn, c0.stp hw.stp, fun _ _ _ => rfl, Nat.le_trans szw hw.size⟩, ?_⟩
  rintro _ _ _ _ _ _ _ _ _ _ _ _ _ wB ⟨i, V, he, hi8, hkB, pB, hVY, szB⟩
  simp only [List.cons.injEq, and_true] at he
  obtain ⟨rfl, rfl, rfl, rfl, rfl, rfl, hxa, hxb, rfl, rfl, rfl, rfl, rfl⟩ := he
  replace hxa := hxa.symm
  replace hxb := hxb.symm
  subst hxa
  subst hxb
  rw [ask_lssN]
  refine a_ifD (fun hlt => ?_) fun hge => ?_
  · refine a_ix8 hlt (a_sel8 hlt (a_ix8 hlt ?_))
    refine a_upd8 hlt (own_cells (hrow i hlt)) (own_one (hrow i hlt)) ?_
    rw [arr8_congr (f := fun j => if j = i then Y i else if j < i then V j else .slice none 0 0) (g := fun j => if j < i + 1 then V j else .slice none 0 0) fun j hj => by
      by_cases h1 : j = i
      · subst h1; simp [hVY j (Nat.le_refl _) hj]
      · simp only [h1, if_false]
        by_cases h2 : j < i
        · rw [if_pos h2, if_pos (by omega)]
        · rw [if_neg h2, if_neg (by omega)]]
    refine ⟨fun a w => ∃ q V, a = [J q, .agg (arr8 fun j => if j < i + 1 then V j else .slice none 0 0).toArray] ∧ q ≤ 40 ∧ Kn X w ∧ Ph2 w6' w nb Y V n (moreN n i q) (100 + ·) ∧ (∀ j, i + 1 ≤ j → j < 8 → V j = Y j) ∧ w28'.heap.size ≤ w.heap.size,
      fun a _ => match a with | [q, _] => 40 - intNat q | _ => 0,
      fun w2 hw => ⟨0, V, rfl, Nat.zero_le _, hw.kn, pB.stpX hw.stp (by simp; omega) (by subst hnb; simp) (fun j hj g hg => by have := offY j hj g hg; simp; omega), fun j h1 h2 => hVY j (by omega) h2, Nat.le_trans szB hw.size⟩, ?_⟩
    rintro _ _ w2 ⟨q, V2, he, hq, hk2, p2, hV2, sz2⟩
    simp only [List.cons.injEq, and_true] at he
    obtain ⟨rfl, rfl⟩ := he
    rw [ask_lssN]
    refine a_ifD (fun hlt2 => ?_) fun hge2 => ?_
    · have hsel : (if i < i + 1 then V2 i else (.slice none 0 0 : Value)) = V2 i := if_pos (Nat.lt_succ_self i)
      refine a_ix8 hlt (a_sel8v hlt hsel ?_)
      rw [ask_addN (by omega)]
      refine a_j2uF hP (by simp only [B64]; omega) (a_plain rfl ?_)
      rw [S100 i hlt]
      have row := p2.row i hlt
      have lw : moreN n i q i ≤ 1048616 := by have := hnl i; unfold moreN; rw [if_neg (Nat.lt_irrefl i), if_pos rfl]; omega
      refine a_pushM (encS (100 + i)).toArray hX hP tyS' rfl rfl (by decide) (by decide) (by decide) (by kernel_rfl) rfl (one_encS' _) (fun g hg => by have := p2.off i hlt g hg; subst hnb; exact this) hx0 p2.low.size row (by simp only [maxLen]; omega) (by omega) fun v' w3 k3' s3' o3' hb3 => ?_
      refine a_ix8 hlt ?_
      refine a_upd8 hlt (own_cells o3') (own_one o3') ?_
      rw [arr8_congr (f := fun j => if j = i then v' else if j < i + 1 then V2 j else .slice none 0 0) (g := fun j => if j < i + 1 then (if j = i then v' else V2 j) else .slice none 0 0) fun j hj => by
        by_cases h1 : j = i
        · subst h1; simp
        · simp only [h1, if_false]]
      rw [ask_succ (by omega)]
      intro w4 hw4
      have pn := p2.push hlt s3' o3' (hb3.imp_right fun ⟨g, h1, h2, h3, h4⟩ => ⟨g, h1, h2, by subst hnb; exact h3, h4⟩)
      rw [moreN_step] at pn
      refine ⟨⟨q + 1, fun j => if j = i then v' else V2 j, rfl, hlt2, hw4.kn, pn.stpX hw4.stp (by simp; omega) (by subst hnb; simp) (fun j hj g hg => by have := offY j hj g hg; simp; omega), fun j h1 h2 => (if_neg (by omega)).trans (hV2 j h1 h2), Nat.le_trans sz2 (Nat.le_trans s3'.size hw4.size)⟩, by simp [intNat]; omega⟩
    · obtain rfl : q = 40 := by omega
      rw [ask_succ (by omega)]
      intro w4 hw4
      rw [moreN_next] at p2
      exact ⟨⟨i + 1, V2, rfl, hlt, hw4.kn, p2.stp hw4.stp, hV2, Nat.le_trans sz2 hw4.size⟩, by simp [intNat]; omega⟩
  obtain rfl : i = 8 := by omega
  rw [arr8_congr (f := fun j => if j < 8 then V j else .slice none 0 0) (g := V) fun j hj => if_pos hj]
  -- and all looked at
  have hm8 : ∀ j, j < 8 → moreN n 8 0 j = n j + 40 := fun j hj => by unfold moreN; rw [if_pos hj]
  refine ⟨fun a w => ∃ i, a = [.bool false, J i, U (Vc.lb k 0), U (Vc.lb k 1), U (Vc.lb k 2), U (Vc.lb k 3), .agg cs.toArray, xa, xb, EL e4, EL e6, .slice none 0 0, .agg (arr8 Y).toArray, .agg (arr8 V).toArray] ∧ i ≤ 8 ∧ Kn X w ∧ Ph2 w6' w nb Y V n (moreN n 8 0) (100 + ·),
    fun a _ => match a with | _ :: i :: _ => 8 - intNat i | _ => 0,
    fun w2 hw => ⟨0, rfl, Nat.zero_le _, hw.kn, pB.stp hw.stp⟩, ?_⟩
  rintro _ _ _ _ _ _ _ _ _ _ _ _ _ _ wC ⟨i, he, hi8, hkC, pC⟩
  simp only [List.cons.injEq, and_true] at he
  obtain ⟨rfl, rfl, rfl, rfl, rfl, rfl, rfl, hxa, hxb, rfl, rfl, rfl, rfl, rfl⟩ := he
  replace hxa := hxa.symm
  replace hxb := hxb.symm
  subst hxa
  subst hxb
  rw [ask_lssN]
  refine a_ifD (fun hlt => ?_) fun hge => ?_
  · refine ⟨fun a w => ∃ q, a = [.bool false, J q] ∧ q ≤ n i + 40 ∧ Kn X w ∧ Ph2 w6' w nb Y V n (moreN n 8 0) (100 + ·),
      fun a _ => match a with | [_, q] => n i + 40 - intNat q | _ => 0,
      fun w2 hw => ⟨0, rfl, Nat.zero_le _, hw.kn, pC.stp hw.stp⟩, ?_⟩
    rintro _ _ w2 ⟨q, he, hq, hk2, p2⟩
    simp only [List.cons.injEq, and_true] at he
    obtain ⟨rfl, rfl⟩ := he
    have row := own_slAt (p2.row i hlt)
    rw [hm8 i hlt] at row
    have old := p2.old i hlt
    have lw := hnl i
    have okc := ok100 i hlt
    refine a_ix8 hlt (a_sel8 hlt ?_)
    refine a_len hP tyS' row ?_
    rw [ask_lssN]
    refine a_ifD (fun hlt2 => ?_) fun hge2 => ?_
    · refine a_ix8 hlt (a_sel8 hlt ?_)
      refine a_iadN hP tyS' row hlt2 ?_
      have getc : ∀ {N : Nat}, q < N → (List.replicate N (100 + i))[q]? = some (100 + i) := fun h => by rw [List.getElem?_replicate, if_pos h]
      refine a_load_agg (cs := encS (100 + i)) hk2 row (hP ▸ aggS) (by rw [hP]; exact szS) (fun _ _ => List.not_mem_nil) (by simp [encS]) (flat_at encS_len _ q _ (getc hlt2)) ?_
      rw [agg_encS, ask_addN (by omega)]
      refine a_j2uF hP (by simp only [B64]; omega) (a_plain rfl ?_)
      rw [S100 i hlt, ask_neqS (hP ▸ a4S) okc okc, decide_eq_true rfl, Bool.not_true]
      refine a_G_on condsV1 (a_ix8 hlt ?_)
      refine a_G_on condsV1 (a_sel8 hlt ?_)
      refine a_G_on condsV1 (a_len hP tyS' old ?_)
      refine a_G_on condsV1 ?_
      rw [ask_lssN]
      have fin : ∀ {w3}, KnownV X w2 [] [] w3 → ∃ q', ([.bool false, J (q + 1)] : List Value) = [.bool false, J q'] ∧ q' ≤ n i + 40 ∧ Kn X w3 ∧ Ph2 w6' w3 nb Y V n (moreN n 8 0) (100 + ·) := fun hw => ⟨q + 1, rfl, hlt2, hw.kn, p2.stp hw.stp⟩
      by_cases hin : q < n i
      · rw [decide_eq_true hin]
        refine a_G_on condsV2 (a_ix8 hlt ?_)
        refine a_G_on condsV2 (a_sel8 hlt ?_)
        refine a_G_on condsV2 (a_iadN hP tyS' old hin ?_)
        refine a_G_on condsV2 (a_load_agg (cs := encS (100 + i)) hk2 old (hP ▸ aggS) (by rw [hP]; exact szS) (fun _ _ => List.not_mem_nil) (by simp [encS]) (flat_at encS_len _ q _ (getc hin)) ?_)
        refine a_G_on condsV2 (a_ix8 hlt ?_)
        refine a_G_on condsV2 (a_sel8 hlt ?_)
        refine a_G_on condsV2 (a_iadN hP tyS' row hlt2 ?_)
        refine a_G_on condsV2 (a_load_agg (cs := encS (100 + i)) hk2 row (hP ▸ aggS) (by rw [hP]; exact szS) (fun _ _ => List.not_mem_nil) (by simp [encS]) (flat_at encS_len _ q _ (getc hlt2)) ?_)
        refine a_G_on condsV2 ?_
        rw [agg_encS, ask_neqS (hP ▸ a4S) okc okc, decide_eq_true rfl, Bool.not_true]
        refine a_G_on condsV1 ?_
        rw [ask_pickT, ask_pickF]
        refine a_if (fun h => by cases h) fun _ => ?_
        rw [ask_succ (by omega)]
        intro w3 hw3
        exact ⟨fin hw3, by simp [intNat]; omega⟩
      · rw [decide_eq_false hin]
        have no : ¬ condsV [(.bool false, false), (.bool false, true)] := condsV2_not (by decide)
        iterate 9 refine a_G_off no fun _ => ?_
        refine a_G_on condsV1 ?_
        rw [ask_pickF, ask_pickF]
        refine a_if (fun h => by cases h) fun _ => ?_
        rw [ask_succ (by omega)]
        intro w3 hw3
        exact ⟨fin hw3, by simp [intNat]; omega⟩
    · obtain rfl : q = n i + 40 := by omega
      rw [ask_succ (by omega)]
      intro w3 hw3
      exact ⟨⟨i + 1, rfl, hlt, hw3.kn, p2.stp hw3.stp⟩, by simp [intNat]; omega⟩
  -- what was handed in
  have t0 := pC.low
  refine call_W hX hS (T := Tmf) (f := 22) rfl (la, la, ()) (fun w2 hw => ⟨⟨_, _, rfl, cMk_stable _ _ _ _ (t0.trans0 hw.stp) mA, _, _, rfl, hrA hw.kn, rfl⟩, rfl, by simp only [mx]; omega⟩) fun v30 w30 w30' h30 k30 s30 su30 hv => ?_
  subst hv
  have t1 := t0.trans0 su30
  refine a_GW_on condsV1 (call_W hX hS (T := Tmf) (f := 22) rfl (lb, lb, ()) (fun w2 hw => ⟨⟨_, _, rfl, cMk_stable _ _ _ _ (t1.trans0 hw.stp) mB, _, _, rfl, hrB hw.kn, rfl⟩, rfl, by simp only [mx]; omega⟩) fun v31 w31 w31' h31 k31 s31 su31 hv => ?_)
  subst hv
  have t2 := t1.trans0 su31
  rw [ask_pickT]
  refine a_GW_on condsV1 (call_W hX hS (T := Tmf) (f := 8) rfl (la, lb) (fun w2 hw => ⟨⟨xa, xb, rfl, lA (t2.trans0 hw.stp), lB (t2.trans0 hw.stp)⟩, by simp only [mx]; omega, by simp only [mx]; omega⟩) fun v32 w32 w32' h32 k32 s32 su32 hv => ?_)
  obtain ⟨y32, rfl, r32⟩ := hv
  dsimp only at r32
  rw [told_add la lb k] at r32
  have t3 := t2.trans0 su32
  refine a_GW_on condsV1 (call_W hX hS (T := Tmf) (f := 12) rfl (trim (modL la), trim (modL lb)) (fun w2 hw => ⟨⟨e4, e6, rfl, E4.stp0 (t3.trans0 hw.stp), E6.stp0 (t3.trans0 hw.stp)⟩, ⟨nA, nB⟩, fun _ => tm, fun _ => tm⟩) fun v33 w33 w33' h33 k33 s33 su33 hv => ?_)
  obtain ⟨y33, rfl, r33⟩ := hv
  dsimp only at r33
  have l0 := hN 0 (by decide)
  refine a_GW_on condsV1 (call_W hX hS (T := Tmf) (f := 17) rfl (wantL la lb k 0, wantL la lb k 0) (fun w2 hw => ⟨⟨y32, y33, rfl, ⟨((own_slAt r32).stp0 su33).stp0 hw.stp, hOk 0 (by decide)⟩, ⟨(own_slAt r33).stp0 hw.stp, hOk 0 (by decide)⟩⟩, by simp only [mx]; omega, by simp only [mx]; omega⟩) fun v34 w34 w34' h34 k34 s34 su34 hv => ?_)
  dsimp only at hv
  rw [decide_eq_true rfl] at hv
  subst hv
  rw [ask_pickT]
  exact hR _ _ _ _ fun _ _ => rfl
#print axioms keepsMF
end Go.Vc
