/-
  The law (veillaw16.IdealBacks).
-/
import Derived.Test.YtcnmnmhmmgjblaaGreatDoorDIq
namespace Go.Vc
open Go Go.Proofs Go.RowKit
def bkP (d : Cs) : BkP := ⟨setN d, d.b, d.c, mapN (opP d) (opsN d), d.y, d.z, d.x, stN d⟩
def dD (d : Cs) : Bk := ⟨(rF d.B, rF d.Bl, rF d.Q, (cut d.G).map rF, (cut d.H).map rF), d.b, d.c, mapN (opD d) (opsN d), rF d.y, rF d.z, rF d.x, stD d⟩
theorem redO_ops (d : Cs) : redO (mapN (opP d) (opsN d)) = mapN (opD d) (opsN d) := by
  unfold redO mapN
  rw [List.map_map]
  rfl
theorem bkP_doc (d : Cs) : (bkP d).doc = dD d := by
  have h : (bkP d).doc = ⟨(rF d.B, rF d.Bl, rF d.Q, (cut d.G).map rF, (cut d.H).map rF), d.b, d.c, redO (mapN (opP d) (opsN d)), rF d.y, rF d.z, rF d.x, stD d⟩ := rfl
  rw [h, redO_ops]; rfl
theorem dD_err (d : Cs) : (dD d).err = (bkP d).err := by rw [← bkP_doc]; exact doc_err _
theorem dD_out (d : Cs) : (dD d).out = (bkP d).out := by rw [← bkP_doc]; exact doc_out _
theorem getD_okU {l : List Nat} (h : ∀ x ∈ l, x < B64) (i : Nat) : l.getD i 0 < B64 := by
  rw [List.getD_eq_getElem?_getD]
  cases hj : l[i]? with
  | none => exact show 0 < B64 by decide
  | some x => exact h x (List.mem_of_getElem? hj)
theorem mem_mapN {α : Type} {f : Nat → α} {n : Nat} {p : α} (h : p ∈ mapN f n) : ∃ i, p = f i := by
  obtain ⟨i, _, rfl⟩ := List.mem_map.1 h
  exact ⟨i, rfl⟩
theorem opP_ok {d : Cs} (hv : ∀ x ∈ d.V, x < B64) (hb : ∀ x ∈ d.Bs, okS x) : ∀ p ∈ mapN (opP d) (opsN d), okO p := fun p hp => by
  obtain ⟨i, rfl⟩ := mem_mapN hp
  exact ⟨getD_okU hv i, getD_okS hb i⟩
theorem opD_ok {d : Cs} (hv : ∀ x ∈ d.V, x < B64) : ∀ p ∈ mapN (opD d) (opsN d), okO p := fun p hp => by
  obtain ⟨i, rfl⟩ := mem_mapN hp
  exact ⟨getD_okU hv i, val_lt _⟩
theorem cStF_stable : cStF.Stable := fun _ _ _ _ hs ⟨g, h, e, hg, hh⟩ => ⟨g, h, e, cLF_stable _ _ _ _ hs hg, cLF_stable _ _ _ _ hs hh⟩
def cBacks : Contract := fnW cCs (fun _ _ => True) (fun _ _ v _ => v = .bool true)
def Tbs : Table := (((((((((((T0.add 7 cTa).add 9 cSt).add 10 cPar).add 11 (cOps 116 opP)).add 13 cDSt).add 14 (cOps 131 opD)).add 16 cDTa).add 8 cBack).add 12 cRBk).add 17 cPt).add 18 cUnt16).add 15 cqLeast
theorem keepTbs : AllKeep Tryz.prog GT Tbs := (((((((((((keepT0.add keepsTa).add keepsSt).add keepsPar).add keepsOps).add keepsDSt).add keepsDOps).add keepsDTa).add keepsBack).add keepsRBk).add keepsPt).add keepsUnt16).add keepsqRLeast
def ann3 : Ann := ⟨[], [15], 70, [(7, false), (9, false), (10, false), (11, false), (13, false), (14, false), (16, false), (8, false), (12, false), (17, false), (18, false)], [], none, [1000004, 1000006], []⟩
def kb3_0 (b0 : Nat) (x2 : Value) : List KB := [⟨b0, true, 27, (aggArr x2)⟩]
def kb3_1 (b0 b1 : Nat) (x2 x4 : Value) : List KB := [⟨b0, true, 27, (aggArr x2)⟩, ⟨b1, true, 33, (aggArr x4)⟩]
def kb3_2 (b0 b1 b2 : Nat) (x2 x4 x14 : Value) : List KB := [⟨b0, true, 27, (aggArr x2)⟩, ⟨b1, true, 33, (aggArr x4)⟩, ⟨b2, true, 36, (aggArr x14)⟩]
def kb3_3 (b0 b1 b2 b3 : Nat) (x2 x4 x14 x28 : Value) : List KB := [⟨b0, true, 27, (aggArr x2)⟩, ⟨b1, true, 33, (aggArr x4)⟩, ⟨b2, true, 36, (aggArr x14)⟩, ⟨b3, true, 52, (aggArr x28)⟩]
def kb3_4 (b0 b1 b2 b3 : Nat) (x2 x4 x14 : Value) : List KB := [⟨b0, true, 27, (aggArr x2)⟩, ⟨b1, true, 33, (aggArr x4)⟩, ⟨b2, true, 36, (aggArr x14)⟩, ⟨b3, true, 52, #[(U 0), (U 0), (U 0), (U 0), (U 0), (U 0), (U 0), (U 0), (U 0), (U 0), (U 0), (U 0), (U 0), (U 0), (U 0), (U 0), (.slice none 0 0), (.slice none 0 0)]⟩]
def kb3_5 (b0 b1 b2 : Nat) (x2 x4 : Value) : List KB := [⟨b0, true, 27, (aggArr x2)⟩, ⟨b1, true, 33, (aggArr x4)⟩, ⟨b2, true, 36, #[(U 0), (U 0), (U 0), (U 0), (U 0), (U 0), (U 0), (U 0), (U 0), (U 0), (U 0), (U 0), (U 0), (U 0), (U 0), (U 0), (.slice none 0 0), (.slice none 0 0)]⟩]
theorem vc3 (X : Ctx) (β : Nat → Nat) (x0 : Value) : (run Tryz.prog ann3 3 [.x (.v 0)] [] [] 2).den X (env0 [x0] X.w0) 2 β 0 (fun _ _ _ => False) = (
 Ask (rAgg 67 x0) fun x2 =>
 AskNew X.w0 fun b0 =>
 AskW X X.w0 [] (kb3_0 b0 x2) false 7 [x2] fun x3 w3 =>
 AskNew w3 fun b1 =>
 Ask (rAgg 18 x3) fun x4 =>
 ((
 ((
 ((
 ((
 AskW X w3 [b1] (kb3_1 b0 b1 x2 x4) false 9 [x2] fun x5 w5 =>
 AskW X w5 [] (kb3_1 b0 b1 x2 x4) false 10 [x2] fun x6 w6 =>
 AskW X w6 [] (kb3_1 b0 b1 x2 x4) false 11 [x2] fun x7 w7 =>
 Ask (rSel (aggArr x2) 19 4 true) fun x8 =>
 Ask (rSel (aggArr x2) 23 4 true) fun x9 =>
 Ask (rSel (aggArr x2) 27 4 true) fun x10 =>
 AskW X w7 [] (kb3_1 b0 b1 x2 x4) false 8 [x5, x6, x7, x8, x9, x10, x4] fun x11 w11 =>
 Ask (rExt X.P x11 0) fun x12 =>
 Ask (rExt X.P x11 1) fun x13 =>
 AskNew w11 fun b2 =>
 Ask (rAgg 18 x12) fun x14 =>
 ((
 ((
 ((
 ((
 ((
 AskW X w11 [b2] (kb3_2 b0 b1 b2 x2 x4 x14) false 13 [x2] fun x15 w15 =>
 AskW X w15 [] (kb3_2 b0 b1 b2 x2 x4 x14) false 10 [x2] fun x16 w16 =>
 AskW X w16 [] (kb3_2 b0 b1 b2 x2 x4 x14) false 14 [x2] fun x17 w17 =>
 Ask (rSel (aggArr x2) 19 4 true) fun x18 =>
 AskF X 15 [x18] fun x19 =>
 Ask (rSel (aggArr x2) 23 4 true) fun x20 =>
 AskF X 15 [x20] fun x21 =>
 Ask (rSel (aggArr x2) 27 4 true) fun x22 =>
 AskF X 15 [x22] fun x23 =>
 AskW X w17 [] (kb3_2 b0 b1 b2 x2 x4 x14) false 16 [x2] fun x24 w24 =>
 AskW X w24 [] (kb3_2 b0 b1 b2 x2 x4 x14) false 12 [x15, x16, x17, x19, x21, x23, x24] fun x25 w25 =>
 Ask (rExt X.P x25 0) fun x26 =>
 Ask (rExt X.P x25 1) fun x27 =>
 AskNew w25 fun b3 =>
 Ask (rAgg 18 x26) fun x28 =>
 Ask (rBin X.P .eql 37 false false x13 x27) fun x29 =>
 AskGW X [(x29, true)] w25 [b3] (kb3_3 b0 b1 b2 b3 x2 x4 x14 x28) false 17 [x14, x28] fun x30 w30 =>
 Ask (rPick x29 x30 (.bool false)) fun x31 =>
 AskG [(x31, true)] (rSel (aggArr x4) 0 1 false) fun x32 =>
 AskG [(x31, true)] (rSel (aggArr x2) 49 1 false) fun x33 =>
 AskGW X [(x31, true)] w30 [b3] (kb3_3 b0 b1 b2 b3 x2 x4 x14 x28) false 18 [x32, x33] fun x34 w34 =>
 Ask (rPick x31 x34 (.bool false)) fun x35 =>
 AskG [(x35, true)] (rSel (aggArr x4) 1 1 false) fun x36 =>
 AskG [(x35, true)] (rSel (aggArr x2) 50 1 false) fun x37 =>
 AskGW X [(x35, true)] w34 [b3] (kb3_3 b0 b1 b2 b3 x2 x4 x14 x28) false 18 [x36, x37] fun x38 w38 =>
 Ask (rPick x35 x38 (.bool false)) fun x39 =>
 Ret X w38 [b3] [] x39) ∧ (
 AskW X w11 [b2] (kb3_2 b0 b1 b2 x2 x4 x14) false 13 [x2] fun x15 w15 =>
 AskW X w15 [] (kb3_2 b0 b1 b2 x2 x4 x14) false 10 [x2] fun x16 w16 =>
 AskW X w16 [] (kb3_2 b0 b1 b2 x2 x4 x14) false 14 [x2] fun x17 w17 =>
 Ask (rSel (aggArr x2) 19 4 true) fun x18 =>
 AskF X 15 [x18] fun x19 =>
 Ask (rSel (aggArr x2) 23 4 true) fun x20 =>
 AskF X 15 [x20] fun x21 =>
 Ask (rSel (aggArr x2) 27 4 true) fun x22 =>
 AskF X 15 [x22] fun x23 =>
 AskW X w17 [] (kb3_2 b0 b1 b2 x2 x4 x14) false 16 [x2] fun x24 w24 =>
 AskNew w24 fun b3 =>
 AskW X w24 [] (kb3_4 b0 b1 b2 b3 x2 x4 x14) false 12 [x15, x16, x17, x19, x21, x23, x24] fun x25 w25 =>
 Ask (rExt X.P x25 0) fun x26 =>
 Ask (rExt X.P x25 1) fun x27 =>
 Ask (rAgg 18 x26) fun x28 =>
 Ask (rBin X.P .eql 37 false false x13 x27) fun x29 =>
 AskGW X [(x29, true)] w25 [b3] (kb3_3 b0 b1 b2 b3 x2 x4 x14 x28) false 17 [x14, x28] fun x30 w30 =>
 Ask (rPick x29 x30 (.bool false)) fun x31 =>
 AskG [(x31, true)] (rSel (aggArr x4) 0 1 false) fun x32 =>
 AskG [(x31, true)] (rSel (aggArr x2) 49 1 false) fun x33 =>
 AskGW X [(x31, true)] w30 [b3] (kb3_3 b0 b1 b2 b3 x2 x4 x14 x28) false 18 [x32, x33] fun x34 w34 =>
 Ask (rPick x31 x34 (.bool false)) fun x35 =>
 AskG [(x35, true)] (rSel (aggArr x4) 1 1 false) fun x36 =>
 AskG [(x35, true)] (rSel (aggArr x2) 50 1 false) fun x37 =>
 AskGW X [(x35, true)] w34 [b3] (kb3_3 b0 b1 b2 b3 x2 x4 x14 x28) false 18 [x36, x37] fun x38 w38 =>
 Ask (rPick x35 x38 (.bool false)) fun x39 =>
 Ret X w38 [b3] [] x39))) ∧ (
 AskW X w11 [b2] (kb3_2 b0 b1 b2 x2 x4 x14) false 13 [x2] fun x15 w15 =>
 AskW X w15 [] (kb3_2 b0 b1 b2 x2 x4 x14) false 10 [x2] fun x16 w16 =>
 AskW X w16 [] (kb3_2 b0 b1 b2 x2 x4 x14) false 14 [x2] fun x17 w17 =>
 AskNew w17 fun b3 =>
 Ask (rSel (aggArr x2) 19 4 true) fun x18 =>
 AskF X 15 [x18] fun x19 =>
 Ask (rSel (aggArr x2) 23 4 true) fun x20 =>
 AskF X 15 [x20] fun x21 =>
 Ask (rSel (aggArr x2) 27 4 true) fun x22 =>
 AskF X 15 [x22] fun x23 =>
 AskW X w17 [] (kb3_4 b0 b1 b2 b3 x2 x4 x14) false 16 [x2] fun x24 w24 =>
 AskW X w24 [] (kb3_4 b0 b1 b2 b3 x2 x4 x14) false 12 [x15, x16, x17, x19, x21, x23, x24] fun x25 w25 =>
 Ask (rExt X.P x25 0) fun x26 =>
 Ask (rExt X.P x25 1) fun x27 =>
 Ask (rAgg 18 x26) fun x28 =>
 Ask (rBin X.P .eql 37 false false x13 x27) fun x29 =>
 AskGW X [(x29, true)] w25 [b3] (kb3_3 b0 b1 b2 b3 x2 x4 x14 x28) false 17 [x14, x28] fun x30 w30 =>
 Ask (rPick x29 x30 (.bool false)) fun x31 =>
 AskG [(x31, true)] (rSel (aggArr x4) 0 1 false) fun x32 =>
 AskG [(x31, true)] (rSel (aggArr x2) 49 1 false) fun x33 =>
 AskGW X [(x31, true)] w30 [b3] (kb3_3 b0 b1 b2 b3 x2 x4 x14 x28) false 18 [x32, x33] fun x34 w34 =>
 Ask (rPick x31 x34 (.bool false)) fun x35 =>
 AskG [(x35, true)] (rSel (aggArr x4) 1 1 false) fun x36 =>
 AskG [(x35, true)] (rSel (aggArr x2) 50 1 false) fun x37 =>
 AskGW X [(x35, true)] w34 [b3] (kb3_3 b0 b1 b2 b3 x2 x4 x14 x28) false 18 [x36, x37] fun x38 w38 =>
 Ask (rPick x35 x38 (.bool false)) fun x39 =>
 Ret X w38 [b3] [] x39))) ∧ (
 AskW X w11 [b2] (kb3_2 b0 b1 b2 x2 x4 x14) false 13 [x2] fun x15 w15 =>
 AskW X w15 [] (kb3_2 b0 b1 b2 x2 x4 x14) false 10 [x2] fun x16 w16 =>
 AskNew w16 fun b3 =>
 AskW X w16 [] (kb3_4 b0 b1 b2 b3 x2 x4 x14) false 14 [x2] fun x17 w17 =>
 Ask (rSel (aggArr x2) 19 4 true) fun x18 =>
 AskF X 15 [x18] fun x19 =>
 Ask (rSel (aggArr x2) 23 4 true) fun x20 =>
 AskF X 15 [x20] fun x21 =>
 Ask (rSel (aggArr x2) 27 4 true) fun x22 =>
 AskF X 15 [x22] fun x23 =>
 AskW X w17 [] (kb3_4 b0 b1 b2 b3 x2 x4 x14) false 16 [x2] fun x24 w24 =>
 AskW X w24 [] (kb3_4 b0 b1 b2 b3 x2 x4 x14) false 12 [x15, x16, x17, x19, x21, x23, x24] fun x25 w25 =>
 Ask (rExt X.P x25 0) fun x26 =>
 Ask (rExt X.P x25 1) fun x27 =>
 Ask (rAgg 18 x26) fun x28 =>
 Ask (rBin X.P .eql 37 false false x13 x27) fun x29 =>
 AskGW X [(x29, true)] w25 [b3] (kb3_3 b0 b1 b2 b3 x2 x4 x14 x28) false 17 [x14, x28] fun x30 w30 =>
 Ask (rPick x29 x30 (.bool false)) fun x31 =>
 AskG [(x31, true)] (rSel (aggArr x4) 0 1 false) fun x32 =>
 AskG [(x31, true)] (rSel (aggArr x2) 49 1 false) fun x33 =>
 AskGW X [(x31, true)] w30 [b3] (kb3_3 b0 b1 b2 b3 x2 x4 x14 x28) false 18 [x32, x33] fun x34 w34 =>
 Ask (rPick x31 x34 (.bool false)) fun x35 =>
 AskG [(x35, true)] (rSel (aggArr x4) 1 1 false) fun x36 =>
 AskG [(x35, true)] (rSel (aggArr x2) 50 1 false) fun x37 =>
 AskGW X [(x35, true)] w34 [b3] (kb3_3 b0 b1 b2 b3 x2 x4 x14 x28) false 18 [x36, x37] fun x38 w38 =>
 Ask (rPick x35 x38 (.bool false)) fun x39 =>
 Ret X w38 [b3] [] x39))) ∧ (
 AskW X w11 [b2] (kb3_2 b0 b1 b2 x2 x4 x14) false 13 [x2] fun x15 w15 =>
 AskNew w15 fun b3 =>
 AskW X w15 [] (kb3_4 b0 b1 b2 b3 x2 x4 x14) false 10 [x2] fun x16 w16 =>
 AskW X w16 [] (kb3_4 b0 b1 b2 b3 x2 x4 x14) false 14 [x2] fun x17 w17 =>
 Ask (rSel (aggArr x2) 19 4 true) fun x18 =>
 AskF X 15 [x18] fun x19 =>
 Ask (rSel (aggArr x2) 23 4 true) fun x20 =>
 AskF X 15 [x20] fun x21 =>
 Ask (rSel (aggArr x2) 27 4 true) fun x22 =>
 AskF X 15 [x22] fun x23 =>
 AskW X w17 [] (kb3_4 b0 b1 b2 b3 x2 x4 x14) false 16 [x2] fun x24 w24 =>
 AskW X w24 [] (kb3_4 b0 b1 b2 b3 x2 x4 x14) false 12 [x15, x16, x17, x19, x21, x23, x24] fun x25 w25 =>
 Ask (rExt X.P x25 0) fun x26 =>
 Ask (rExt X.P x25 1) fun x27 =>
 Ask (rAgg 18 x26) fun x28 =>
 Ask (rBin X.P .eql 37 false false x13 x27) fun x29 =>
 AskGW X [(x29, true)] w25 [b3] (kb3_3 b0 b1 b2 b3 x2 x4 x14 x28) false 17 [x14, x28] fun x30 w30 =>
 Ask (rPick x29 x30 (.bool false)) fun x31 =>
 AskG [(x31, true)] (rSel (aggArr x4) 0 1 false) fun x32 =>
 AskG [(x31, true)] (rSel (aggArr x2) 49 1 false) fun x33 =>
 AskGW X [(x31, true)] w30 [b3] (kb3_3 b0 b1 b2 b3 x2 x4 x14 x28) false 18 [x32, x33] fun x34 w34 =>
 Ask (rPick x31 x34 (.bool false)) fun x35 =>
 AskG [(x35, true)] (rSel (aggArr x4) 1 1 false) fun x36 =>
 AskG [(x35, true)] (rSel (aggArr x2) 50 1 false) fun x37 =>
 AskGW X [(x35, true)] w34 [b3] (kb3_3 b0 b1 b2 b3 x2 x4 x14 x28) false 18 [x36, x37] fun x38 w38 =>
 Ask (rPick x35 x38 (.bool false)) fun x39 =>
 Ret X w38 [b3] [] x39))) ∧ (
 AskNew w11 fun b3 =>
 AskW X w11 [b2] (kb3_4 b0 b1 b2 b3 x2 x4 x14) false 13 [x2] fun x15 w15 =>
 AskW X w15 [] (kb3_4 b0 b1 b2 b3 x2 x4 x14) false 10 [x2] fun x16 w16 =>
 AskW X w16 [] (kb3_4 b0 b1 b2 b3 x2 x4 x14) false 14 [x2] fun x17 w17 =>
 Ask (rSel (aggArr x2) 19 4 true) fun x18 =>
 AskF X 15 [x18] fun x19 =>
 Ask (rSel (aggArr x2) 23 4 true) fun x20 =>
 AskF X 15 [x20] fun x21 =>
 Ask (rSel (aggArr x2) 27 4 true) fun x22 =>
 AskF X 15 [x22] fun x23 =>
 AskW X w17 [] (kb3_4 b0 b1 b2 b3 x2 x4 x14) false 16 [x2] fun x24 w24 =>
 AskW X w24 [] (kb3_4 b0 b1 b2 b3 x2 x4 x14) false 12 [x15, x16, x17, x19, x21, x23, x24] fun x25 w25 =>
 Ask (rExt X.P x25 0) fun x26 =>
 Ask (rExt X.P x25 1) fun x27 =>
 Ask (rAgg 18 x26) fun x28 =>
 Ask (rBin X.P .eql 37 false false x13 x27) fun x29 =>
 AskGW X [(x29, true)] w25 [b3] (kb3_3 b0 b1 b2 b3 x2 x4 x14 x28) false 17 [x14, x28] fun x30 w30 =>
 Ask (rPick x29 x30 (.bool false)) fun x31 =>
 AskG [(x31, true)] (rSel (aggArr x4) 0 1 false) fun x32 =>
 AskG [(x31, true)] (rSel (aggArr x2) 49 1 false) fun x33 =>
 AskGW X [(x31, true)] w30 [b3] (kb3_3 b0 b1 b2 b3 x2 x4 x14 x28) false 18 [x32, x33] fun x34 w34 =>
 Ask (rPick x31 x34 (.bool false)) fun x35 =>
 AskG [(x35, true)] (rSel (aggArr x4) 1 1 false) fun x36 =>
 AskG [(x35, true)] (rSel (aggArr x2) 50 1 false) fun x37 =>
 AskGW X [(x35, true)] w34 [b3] (kb3_3 b0 b1 b2 b3 x2 x4 x14 x28) false 18 [x36, x37] fun x38 w38 =>
 Ask (rPick x35 x38 (.bool false)) fun x39 =>
 Ret X w38 [b3] [] x39))) ∧ (
 AskW X w3 [b1] (kb3_1 b0 b1 x2 x4) false 9 [x2] fun x5 w5 =>
 AskW X w5 [] (kb3_1 b0 b1 x2 x4) false 10 [x2] fun x6 w6 =>
 AskW X w6 [] (kb3_1 b0 b1 x2 x4) false 11 [x2] fun x7 w7 =>
 AskNew w7 fun b2 =>
 Ask (rSel (aggArr x2) 19 4 true) fun x8 =>
 Ask (rSel (aggArr x2) 23 4 true) fun x9 =>
 Ask (rSel (aggArr x2) 27 4 true) fun x10 =>
 AskW X w7 [] (kb3_5 b0 b1 b2 x2 x4) false 8 [x5, x6, x7, x8, x9, x10, x4] fun x11 w11 =>
 Ask (rExt X.P x11 0) fun x12 =>
 Ask (rExt X.P x11 1) fun x13 =>
 Ask (rAgg 18 x12) fun x14 =>
 ((
 ((
 ((
 ((
 ((
 AskW X w11 [b2] (kb3_2 b0 b1 b2 x2 x4 x14) false 13 [x2] fun x15 w15 =>
 AskW X w15 [] (kb3_2 b0 b1 b2 x2 x4 x14) false 10 [x2] fun x16 w16 =>
 AskW X w16 [] (kb3_2 b0 b1 b2 x2 x4 x14) false 14 [x2] fun x17 w17 =>
 Ask (rSel (aggArr x2) 19 4 true) fun x18 =>
 AskF X 15 [x18] fun x19 =>
 Ask (rSel (aggArr x2) 23 4 true) fun x20 =>
 AskF X 15 [x20] fun x21 =>
 Ask (rSel (aggArr x2) 27 4 true) fun x22 =>
 AskF X 15 [x22] fun x23 =>
 AskW X w17 [] (kb3_2 b0 b1 b2 x2 x4 x14) false 16 [x2] fun x24 w24 =>
 AskW X w24 [] (kb3_2 b0 b1 b2 x2 x4 x14) false 12 [x15, x16, x17, x19, x21, x23, x24] fun x25 w25 =>
 Ask (rExt X.P x25 0) fun x26 =>
 Ask (rExt X.P x25 1) fun x27 =>
 AskNew w25 fun b3 =>
 Ask (rAgg 18 x26) fun x28 =>
 Ask (rBin X.P .eql 37 false false x13 x27) fun x29 =>
 AskGW X [(x29, true)] w25 [b3] (kb3_3 b0 b1 b2 b3 x2 x4 x14 x28) false 17 [x14, x28] fun x30 w30 =>
 Ask (rPick x29 x30 (.bool false)) fun x31 =>
 AskG [(x31, true)] (rSel (aggArr x4) 0 1 false) fun x32 =>
 AskG [(x31, true)] (rSel (aggArr x2) 49 1 false) fun x33 =>
 AskGW X [(x31, true)] w30 [b3] (kb3_3 b0 b1 b2 b3 x2 x4 x14 x28) false 18 [x32, x33] fun x34 w34 =>
 Ask (rPick x31 x34 (.bool false)) fun x35 =>
 AskG [(x35, true)] (rSel (aggArr x4) 1 1 false) fun x36 =>
 AskG [(x35, true)] (rSel (aggArr x2) 50 1 false) fun x37 =>
 AskGW X [(x35, true)] w34 [b3] (kb3_3 b0 b1 b2 b3 x2 x4 x14 x28) false 18 [x36, x37] fun x38 w38 =>
 Ask (rPick x35 x38 (.bool false)) fun x39 =>
 Ret X w38 [b3] [] x39) ∧ (
 AskW X w11 [b2] (kb3_2 b0 b1 b2 x2 x4 x14) false 13 [x2] fun x15 w15 =>
 AskW X w15 [] (kb3_2 b0 b1 b2 x2 x4 x14) false 10 [x2] fun x16 w16 =>
 AskW X w16 [] (kb3_2 b0 b1 b2 x2 x4 x14) false 14 [x2] fun x17 w17 =>
 Ask (rSel (aggArr x2) 19 4 true) fun x18 =>
 AskF X 15 [x18] fun x19 =>
 Ask (rSel (aggArr x2) 23 4 true) fun x20 =>
 AskF X 15 [x20] fun x21 =>
 Ask (rSel (aggArr x2) 27 4 true) fun x22 =>
 AskF X 15 [x22] fun x23 =>
 AskW X w17 [] (kb3_2 b0 b1 b2 x2 x4 x14) false 16 [x2] fun x24 w24 =>
 AskNew w24 fun b3 =>
 AskW X w24 [] (kb3_4 b0 b1 b2 b3 x2 x4 x14) false 12 [x15, x16, x17, x19, x21, x23, x24] fun x25 w25 =>
 Ask (rExt X.P x25 0) fun x26 =>
 Ask (rExt X.P x25 1) fun x27 =>
 Ask (rAgg 18 x26) fun x28 =>
 Ask (rBin X.P .eql 37 false false x13 x27) fun x29 =>
 AskGW X [(x29, true)] w25 [b3] (kb3_3 b0 b1 b2 b3 x2 x4 x14 x28) false 17 [x14, x28] fun x30 w30 =>
 Ask (rPick x29 x30 (.bool false)) fun x31 =>
 AskG [(x31, true)] (rSel (aggArr x4) 0 1 false) fun x32 =>
 AskG [(x31, true)] (rSel (aggArr x2) 49 1 false) fun x33 =>
 AskGW X [(x31, true)] w30 [b3] (kb3_3 b0 b1 b2 b3 x2 x4 x14 x28) false 18 [x32, x33] fun x34 w34 =>
 Ask (rPick x31 x34 (.bool false)) fun x35 =>
 AskG [(x35, true)] (rSel (aggArr x4) 1 1 false) fun x36 =>
 AskG [(x35, true)] (rSel (aggArr x2) 50 1 false) fun x37 =>
 AskGW X [(x35, true)] w34 [b3] (kb3_3 b0 b1 b2 b3 x2 x4 x14 x28) false 18 [x36, x37] fun x38 w38 =>
 Ask (rPick x35 x38 (.bool false)) fun x39 =>
 Ret X w38 [b3] [] x39))) ∧ (
 AskW X w11 [b2] (kb3_2 b0 b1 b2 x2 x4 x14) false 13 [x2] fun x15 w15 =>
 AskW X w15 [] (kb3_2 b0 b1 b2 x2 x4 x14) false 10 [x2] fun x16 w16 =>
 AskW X w16 [] (kb3_2 b0 b1 b2 x2 x4 x14) false 14 [x2] fun x17 w17 =>
 AskNew w17 fun b3 =>
 Ask (rSel (aggArr x2) 19 4 true) fun x18 =>
 AskF X 15 [x18] fun x19 =>
 Ask (rSel (aggArr x2) 23 4 true) fun x20 =>
 AskF X 15 [x20] fun x21 =>
 Ask (rSel (aggArr x2) 27 4 true) fun x22 =>
 AskF X 15 [x22] fun x23 =>
 AskW X w17 [] (kb3_4 b0 b1 b2 b3 x2 x4 x14) false 16 [x2] fun x24 w24 =>
 AskW X w24 [] (kb3_4 b0 b1 b2 b3 x2 x4 x14) false 12 [x15, x16, x17, x19, x21, x23, x24] fun x25 w25 =>
 Ask (rExt X.P x25 0) fun x26 =>
 Ask (rExt X.P x25 1) fun x27 =>
 Ask (rAgg 18 x26) fun x28 =>
 Ask (rBin X.P .eql 37 false false x13 x27) fun x29 =>
 AskGW X [(x29, true)] w25 [b3] (kb3_3 b0 b1 b2 b3 x2 x4 x14 x28) false 17 [x14, x28] fun x30 w30 =>
 Ask (rPick x29 x30 (.bool false)) fun x31 =>
 AskG [(x31, true)] (rSel (aggArr x4) 0 1 false) fun x32 =>
 AskG [(x31, true)] (rSel (aggArr x2) 49 1 false) fun x33 =>
 AskGW X [(x31, true)] w30 [b3] (kb3_3 b0 b1 b2 b3 x2 x4 x14 x28) false 18 [x32, x33] fun x34 w34 =>
 Ask (rPick x31 x34 (.bool false)) fun x35 =>
 AskG [(x35, true)] (rSel (aggArr x4) 1 1 false) fun x36 =>
 AskG [(x35, true)] (rSel (aggArr x2) 50 1 false) fun x37 =>
 AskGW X [(x35, true)] w34 [b3] (kb3_3 b0 b1 b2 b3 x2 x4 x14 x28) false 18 [x36, x37] fun x38 w38 =>
 Ask (rPick x35 x38 (.bool false)) fun x39 =>
 Ret X w38 [b3] [] x39))) ∧ (
 AskW X w11 [b2] (kb3_2 b0 b1 b2 x2 x4 x14) false 13 [x2] fun x15 w15 =>
 AskW X w15 [] (kb3_2 b0 b1 b2 x2 x4 x14) false 10 [x2] fun x16 w16 =>
 AskNew w16 fun b3 =>
 AskW X w16 [] (kb3_4 b0 b1 b2 b3 x2 x4 x14) false 14 [x2] fun x17 w17 =>
 Ask (rSel (aggArr x2) 19 4 true) fun x18 =>
 AskF X 15 [x18] fun x19 =>
 Ask (rSel (aggArr x2) 23 4 true) fun x20 =>
 AskF X 15 [x20] fun x21 =>
 Ask (rSel (aggArr x2) 27 4 true) fun x22 =>
 AskF X 15 [x22] fun x23 =>
 AskW X w17 [] (kb3_4 b0 b1 b2 b3 x2 x4 x14) false 16 [x2] fun x24 w24 =>
 AskW X w24 [] (kb3_4 b0 b1 b2 b3 x2 x4 x14) false 12 [x15, x16, x17, x19, x21, x23, x24] fun x25 w25 =>
 Ask (rExt X.P x25 0) fun x26 =>
 Ask (rExt X.P x25 1) fun x27 =>
 Ask (rAgg 18 x26) fun x28 =>
 Ask (rBin X.P .eql 37 false false x13 x27) fun x29 =>
 AskGW X [(x29, true)] w25 [b3] (kb3_3 b0 b1 b2 b3 x2 x4 x14 x28) false 17 [x14, x28] fun x30 w30 =>
 Ask (rPick x29 x30 (.bool false)) fun x31 =>
 AskG [(x31, true)] (rSel (aggArr x4) 0 1 false) fun x32 =>
 AskG [(x31, true)] (rSel (aggArr x2) 49 1 false) fun x33 =>
 AskGW X [(x31, true)] w30 [b3] (kb3_3 b0 b1 b2 b3 x2 x4 x14 x28) false 18 [x32, x33] fun x34 w34 =>
 Ask (rPick x31 x34 (.bool false)) fun x35 =>
 AskG [(x35, true)] (rSel (aggArr x4) 1 1 false) fun x36 =>
 AskG [(x35, true)] (rSel (aggArr x2) 50 1 false) fun x37 =>
 AskGW X [(x35, true)] w34 [b3] (kb3_3 b0 b1 b2 b3 x2 x4 x14 x28) false 18 [x36, x37] fun x38 w38 =>
 Ask (rPick x35 x38 (.bool false)) fun x39 =>
 Ret X w38 [b3] [] x39))) ∧ (
 AskW X w11 [b2] (kb3_2 b0 b1 b2 x2 x4 x14) false 13 [x2] fun x15 w15 =>
 AskNew w15 fun b3 =>
 AskW X w15 [] (kb3_4 b0 b1 b2 b3 x2 x4 x14) false 10 [x2] fun x16 w16 =>
 AskW X w16 [] (kb3_4 b0 b1 b2 b3 x2 x4 x14) false 14 [x2] fun x17 w17 =>
 Ask (rSel (aggArr x2) 19 4 true) fun x18 =>
 AskF X 15 [x18] fun x19 =>
 Ask (rSel (aggArr x2) 23 4 true) fun x20 =>
 AskF X 15 [x20] fun x21 =>
 Ask (rSel (aggArr x2) 27 4 true) fun x22 =>
 AskF X 15 [x22] fun x23 =>
 AskW X w17 [] (kb3_4 b0 b1 b2 b3 x2 x4 x14) false 16 [x2] fun x24 w24 =>
 AskW X w24 [] (kb3_4 b0 b1 b2 b3 x2 x4 x14) false 12 [x15, x16, x17, x19, x21, x23, x24] fun x25 w25 =>
 Ask (rExt X.P x25 0) fun x26 =>
 Ask (rExt X.P x25 1) fun x27 =>
 Ask (rAgg 18 x26) fun x28 =>
 Ask (rBin X.P .eql 37 false false x13 x27) fun x29 =>
 AskGW X [(x29, true)] w25 [b3] (kb3_3 b0 b1 b2 b3 x2 x4 x14 x28) false 17 [x14, x28] fun x30 w30 =>
 Ask (rPick x29 x30 (.bool false)) fun x31 =>
 AskG [(x31, true)] (rSel (aggArr x4) 0 1 false) fun x32 =>
 AskG [(x31, true)] (rSel (aggArr x2) 49 1 false) fun x33 =>
 AskGW X [(x31, true)] w30 [b3] (kb3_3 b0 b1 b2 b3 x2 x4 x14 x28) false 18 [x32, x33] fun x34 w34 =>
 Ask (rPick x31 x34 (.bool false)) fun x35 =>
 AskG [(x35, true)] (rSel (aggArr x4) 1 1 false) fun x36 =>
 AskG [(x35, true)] (rSel (aggArr x2) 50 1 false) fun x37 =>
 AskGW X [(x35, true)] w34 [b3] (kb3_3 b0 b1 b2 b3 x2 x4 x14 x28) false 18 [x36, x37] fun x38 w38 =>
 Ask (rPick x35 x38 (.bool false)) fun x39 =>
 Ret X w38 [b3] [] x39))) ∧ (
 AskNew w11 fun b3 =>
 AskW X w11 [b2] (kb3_4 b0 b1 b2 b3 x2 x4 x14) false 13 [x2] fun x15 w15 =>
 AskW X w15 [] (kb3_4 b0 b1 b2 b3 x2 x4 x14) false 10 [x2] fun x16 w16 =>
 AskW X w16 [] (kb3_4 b0 b1 b2 b3 x2 x4 x14) false 14 [x2] fun x17 w17 =>
 Ask (rSel (aggArr x2) 19 4 true) fun x18 =>
 AskF X 15 [x18] fun x19 =>
 Ask (rSel (aggArr x2) 23 4 true) fun x20 =>
 AskF X 15 [x20] fun x21 =>
 Ask (rSel (aggArr x2) 27 4 true) fun x22 =>
 AskF X 15 [x22] fun x23 =>
 AskW X w17 [] (kb3_4 b0 b1 b2 b3 x2 x4 x14) false 16 [x2] fun x24 w24 =>
 AskW X w24 [] (kb3_4 b0 b1 b2 b3 x2 x4 x14) false 12 [x15, x16, x17, x19, x21, x23, x24] fun x25 w25 =>
 Ask (rExt X.P x25 0) fun x26 =>
 Ask (rExt X.P x25 1) fun x27 =>
 Ask (rAgg 18 x26) fun x28 =>
 Ask (rBin X.P .eql 37 false false x13 x27) fun x29 =>
 AskGW X [(x29, true)] w25 [b3] (kb3_3 b0 b1 b2 b3 x2 x4 x14 x28) false 17 [x14, x28] fun x30 w30 =>
 Ask (rPick x29 x30 (.bool false)) fun x31 =>
 AskG [(x31, true)] (rSel (aggArr x4) 0 1 false) fun x32 =>
 AskG [(x31, true)] (rSel (aggArr x2) 49 1 false) fun x33 =>
 AskGW X [(x31, true)] w30 [b3] (kb3_3 b0 b1 b2 b3 x2 x4 x14 x28) false 18 [x32, x33] fun x34 w34 =>
 Ask (rPick x31 x34 (.bool false)) fun x35 =>
 AskG [(x35, true)] (rSel (aggArr x4) 1 1 false) fun x36 =>
 AskG [(x35, true)] (rSel (aggArr x2) 50 1 false) fun x37 =>
 AskGW X [(x35, true)] w34 [b3] (kb3_3 b0 b1 b2 b3 x2 x4 x14 x28) false 18 [x36, x37] fun x38 w38 =>
 Ask (rPick x35 x38 (.bool false)) fun x39 =>
 Ret X w38 [b3] [] x39))))) ∧ (
 AskW X w3 [b1] (kb3_1 b0 b1 x2 x4) false 9 [x2] fun x5 w5 =>
 AskW X w5 [] (kb3_1 b0 b1 x2 x4) false 10 [x2] fun x6 w6 =>
 AskNew w6 fun b2 =>
 AskW X w6 [] (kb3_5 b0 b1 b2 x2 x4) false 11 [x2] fun x7 w7 =>
 Ask (rSel (aggArr x2) 19 4 true) fun x8 =>
 Ask (rSel (aggArr x2) 23 4 true) fun x9 =>
 Ask (rSel (aggArr x2) 27 4 true) fun x10 =>
 AskW X w7 [] (kb3_5 b0 b1 b2 x2 x4) false 8 [x5, x6, x7, x8, x9, x10, x4] fun x11 w11 =>
 Ask (rExt X.P x11 0) fun x12 =>
 Ask (rExt X.P x11 1) fun x13 =>
 Ask (rAgg 18 x12) fun x14 =>
 ((
 ((
 ((
 ((
 ((
 AskW X w11 [b2] (kb3_2 b0 b1 b2 x2 x4 x14) false 13 [x2] fun x15 w15 =>
 AskW X w15 [] (kb3_2 b0 b1 b2 x2 x4 x14) false 10 [x2] fun x16 w16 =>
 AskW X w16 [] (kb3_2 b0 b1 b2 x2 x4 x14) false 14 [x2] fun x17 w17 =>
 Ask (rSel (aggArr x2) 19 4 true) fun x18 =>
 AskF X 15 [x18] fun x19 =>
 Ask (rSel (aggArr x2) 23 4 true) fun x20 =>
 AskF X 15 [x20] fun x21 =>
 Ask (rSel (aggArr x2) 27 4 true) fun x22 =>
 AskF X 15 [x22] fun x23 =>
 AskW X w17 [] (kb3_2 b0 b1 b2 x2 x4 x14) false 16 [x2] fun x24 w24 =>
 AskW X w24 [] (kb3_2 b0 b1 b2 x2 x4 x14) false 12 [x15, x16, x17, x19, x21, x23, x24] fun x25 w25 =>
 Ask (rExt X.P x25 0) fun x26 =>
 Ask (rExt X.P x25 1) fun x27 =>
 AskNew w25 fun b3 =>
 Ask (rAgg 18 x26) fun x28 =>
 Ask (rBin X.P .eql 37 false false x13 x27) fun x29 =>
 AskGW X [(x29, true)] w25 [b3] (kb3_3 b0 b1 b2 b3 x2 x4 x14 x28) false 17 [x14, x28] fun x30 w30 =>
 Ask (rPick x29 x30 (.bool false)) fun x31 =>
 AskG [(x31, true)] (rSel (aggArr x4) 0 1 false) fun x32 =>
 AskG [(x31, true)] (rSel (aggArr x2) 49 1 false) fun x33 =>
 AskGW X [(x31, true)] w30 [b3] (kb3_3 b0 b1 b2 b3 x2 x4 x14 x28) false 18 [x32, x33] fun x34 w34 =>
 Ask (rPick x31 x34 (.bool false)) fun x35 =>
 AskG [(x35, true)] (rSel (aggArr x4) 1 1 false) fun x36 =>
 AskG [(x35, true)] (rSel (aggArr x2) 50 1 false) fun x37 =>
 AskGW X [(x35, true)] w34 [b3] (kb3_3 b0 b1 b2 b3 x2 x4 x14 x28) false 18 [x36, x37] fun x38 w38 =>
 Ask (rPick x35 x38 (.bool false)) fun x39 =>
 Ret X w38 [b3] [] x39) ∧ (
 AskW X w11 [b2] (kb3_2 b0 b1 b2 x2 x4 x14) false 13 [x2] fun x15 w15 =>
 AskW X w15 [] (kb3_2 b0 b1 b2 x2 x4 x14) false 10 [x2] fun x16 w16 =>
 AskW X w16 [] (kb3_2 b0 b1 b2 x2 x4 x14) false 14 [x2] fun x17 w17 =>
 Ask (rSel (aggArr x2) 19 4 true) fun x18 =>
 AskF X 15 [x18] fun x19 =>
 Ask (rSel (aggArr x2) 23 4 true) fun x20 =>
 AskF X 15 [x20] fun x21 =>
 Ask (rSel (aggArr x2) 27 4 true) fun x22 =>
 AskF X 15 [x22] fun x23 =>
 AskW X w17 [] (kb3_2 b0 b1 b2 x2 x4 x14) false 16 [x2] fun x24 w24 =>
 AskNew w24 fun b3 =>
 AskW X w24 [] (kb3_4 b0 b1 b2 b3 x2 x4 x14) false 12 [x15, x16, x17, x19, x21, x23, x24] fun x25 w25 =>
 Ask (rExt X.P x25 0) fun x26 =>
 Ask (rExt X.P x25 1) fun x27 =>
 Ask (rAgg 18 x26) fun x28 =>
 Ask (rBin X.P .eql 37 false false x13 x27) fun x29 =>
 AskGW X [(x29, true)] w25 [b3] (kb3_3 b0 b1 b2 b3 x2 x4 x14 x28) false 17 [x14, x28] fun x30 w30 =>
 Ask (rPick x29 x30 (.bool false)) fun x31 =>
 AskG [(x31, true)] (rSel (aggArr x4) 0 1 false) fun x32 =>
 AskG [(x31, true)] (rSel (aggArr x2) 49 1 false) fun x33 =>
 AskGW X [(x31, true)] w30 [b3] (kb3_3 b0 b1 b2 b3 x2 x4 x14 x28) false 18 [x32, x33] fun x34 w34 =>
 Ask (rPick x31 x34 (.bool false)) fun x35 =>
 AskG [(x35, true)] (rSel (aggArr x4) 1 1 false) fun x36 =>
 AskG [(x35, true)] (rSel (aggArr x2) 50 1 false) fun x37 =>
 AskGW X [(x35, true)] w34 [b3] (kb3_3 b0 b1 b2 b3 x2 x4 x14 x28) false 18 [x36, x37] fun x38 w38 =>
 Ask (rPick x35 x38 (.bool false)) fun x39 =>
 Ret X w38 [b3] [] x39))) ∧ (
 AskW X w11 [b2] (kb3_2 b0 b1 b2 x2 x4 x14) false 13 [x2] fun x15 w15 =>
 AskW X w15 [] (kb3_2 b0 b1 b2 x2 x4 x14) false 10 [x2] fun x16 w16 =>
 AskW X w16 [] (kb3_2 b0 b1 b2 x2 x4 x14) false 14 [x2] fun x17 w17 =>
 AskNew w17 fun b3 =>
 Ask (rSel (aggArr x2) 19 4 true) fun x18 =>
 AskF X 15 [x18] fun x19 =>
 Ask (rSel (aggArr x2) 23 4 true) fun x20 =>
 AskF X 15 [x20] fun x21 =>
 Ask (rSel (aggArr x2) 27 4 true) fun x22 =>
 AskF X 15 [x22] fun x23 =>
 AskW X w17 [] (kb3_4 b0 b1 b2 b3 x2 x4 x14) false 16 [x2] fun x24 w24 =>
 AskW X w24 [] (kb3_4 b0 b1 b2 b3 x2 x4 x14) false 12 [x15, x16, x17, x19, x21, x23, x24] fun x25 w25 =>
 Ask (rExt X.P x25 0) fun x26 =>
 Ask (rExt X.P x25 1) fun x27 =>
 Ask (rAgg 18 x26) fun x28 =>
 Ask (rBin X.P .eql 37 false false x13 x27) fun x29 =>
 AskGW X [(x29, true)] w25 [b3] (kb3_3 b0 b1 b2 b3 x2 x4 x14 x28) false 17 [x14, x28] fun x30 w30 =>
 Ask (rPick x29 x30 (.bool false)) fun x31 =>
 AskG [(x31, true)] (rSel (aggArr x4) 0 1 false) fun x32 =>
 AskG [(x31, true)] (rSel (aggArr x2) 49 1 false) fun x33 =>
 AskGW X [(x31, true)] w30 [b3] (kb3_3 b0 b1 b2 b3 x2 x4 x14 x28) false 18 [x32, x33] fun x34 w34 =>
 Ask (rPick x31 x34 (.bool false)) fun x35 =>
 AskG [(x35, true)] (rSel (aggArr x4) 1 1 false) fun x36 =>
 AskG [(x35, true)] (rSel (aggArr x2) 50 1 false) fun x37 =>
 AskGW X [(x35, true)] w34 [b3] (kb3_3 b0 b1 b2 b3 x2 x4 x14 x28) false 18 [x36, x37] fun x38 w38 =>
 Ask (rPick x35 x38 (.bool false)) fun x39 =>
 Ret X w38 [b3] [] x39))) ∧ (
 AskW X w11 [b2] (kb3_2 b0 b1 b2 x2 x4 x14) false 13 [x2] fun x15 w15 =>
 AskW X w15 [] (kb3_2 b0 b1 b2 x2 x4 x14) false 10 [x2] fun x16 w16 =>
 AskNew w16 fun b3 =>
 AskW X w16 [] (kb3_4 b0 b1 b2 b3 x2 x4 x14) false 14 [x2] fun x17 w17 =>
 Ask (rSel (aggArr x2) 19 4 true) fun x18 =>
 AskF X 15 [x18] fun x19 =>
 Ask (rSel (aggArr x2) 23 4 true) fun x20 =>
 AskF X 15 [x20] fun x21 =>
 Ask (rSel (aggArr x2) 27 4 true) fun x22 =>
 AskF X 15 [x22] fun x23 =>
 AskW X w17 [] (kb3_4 b0 b1 b2 b3 x2 x4 x14) false 16 [x2] fun x24 w24 =>
 AskW X w24 [] (kb3_4 b0 b1 b2 b3 x2 x4 x14) false 12 [x15, x16, x17, x19, x21, x23, x24] fun x25 w25 =>
 Ask (rExt X.P x25 0) fun x26 =>
 Ask (rExt X.P x25 1) fun x27 =>
 Ask (rAgg 18 x26) fun x28 =>
 Ask (rBin X.P .eql 37 false false x13 x27) fun x29 =>
 AskGW X [(x29, true)] w25 [b3] (kb3_3 b0 b1 b2 b3 x2 x4 x14 x28) false 17 [x14, x28] fun x30 w30 =>
 Ask (rPick x29 x30 (.bool false)) fun x31 =>
 AskG [(x31, true)] (rSel (aggArr x4) 0 1 false) fun x32 =>
 AskG [(x31, true)] (rSel (aggArr x2) 49 1 false) fun x33 =>
 AskGW X [(x31, true)] w30 [b3] (kb3_3 b0 b1 b2 b3 x2 x4 x14 x28) false 18 [x32, x33] fun x34 w34 =>
 Ask (rPick x31 x34 (.bool false)) fun x35 =>
 AskG [(x35, true)] (rSel (aggArr x4) 1 1 false) fun x36 =>
 AskG [(x35, true)] (rSel (aggArr x2) 50 1 false) fun x37 =>
 AskGW X [(x35, true)] w34 [b3] (kb3_3 b0 b1 b2 b3 x2 x4 x14 x28) false 18 [x36, x37] fun x38 w38 =>
 Ask (rPick x35 x38 (.bool false)) fun x39 =>
 Ret X w38 [b3] [] x39))) ∧ (
 AskW X w11 [b2] (kb3_2 b0 b1 b2 x2 x4 x14) false 13 [x2] fun x15 w15 =>
 AskNew w15 fun b3 =>
 AskW X w15 [] (kb3_4 b0 b1 b2 b3 x2 x4 x14) false 10 [x2] fun x16 w16 =>
 AskW X w16 [] (kb3_4 b0 b1 b2 b3 x2 x4 x14) false 14 [x2] fun x17 w17 =>
 Ask (rSel (aggArr x2) 19 4 true) fun x18 =>
 AskF X 15 [x18] fun x19 =>
 Ask (rSel (aggArr x2) 23 4 true) fun x20 =>
 AskF X 15 [x20] fun x21 =>
 Ask (rSel (aggArr x2) 27 4 true) fun x22 =>
 AskF X 15 [x22] fun x23 =>
 AskW X w17 [] (kb3_4 b0 b1 b2 b3 x2 x4 x14) false 16 [x2] fun x24 w24 =>
 AskW X w24 [] (kb3_4 b0 b1 b2 b3 x2 x4 x14) false 12 [x15, x16, x17, x19, x21, x23, x24] fun x25 w25 =>
 Ask (rExt X.P x25 0) fun x26 =>
 Ask (rExt X.P x25 1) fun x27 =>
 Ask (rAgg 18 x26) fun x28 =>
 Ask (rBin X.P .eql 37 false false x13 x27) fun x29 =>
 AskGW X [(x29, true)] w25 [b3] (kb3_3 b0 b1 b2 b3 x2 x4 x14 x28) false 17 [x14, x28] fun x30 w30 =>
 Ask (rPick x29 x30 (.bool false)) fun x31 =>
 AskG [(x31, true)] (rSel (aggArr x4) 0 1 false) fun x32 =>
 AskG [(x31, true)] (rSel (aggArr x2) 49 1 false) fun x33 =>
 AskGW X [(x31, true)] w30 [b3] (kb3_3 b0 b1 b2 b3 x2 x4 x14 x28) false 18 [x32, x33] fun x34 w34 =>
 Ask (rPick x31 x34 (.bool false)) fun x35 =>
 AskG [(x35, true)] (rSel (aggArr x4) 1 1 false) fun x36 =>
 AskG [(x35, true)] (rSel (aggArr x2) 50 1 false) fun x37 =>
 AskGW X [(x35, true)] w34 [b3] (kb3_3 b0 b1 b2 b3 x2 x4 x14 x28) false 18 [x36, x37] fun x38 w38 =>
 Ask (rPick x35 x38 (.bool false)) fun x39 =>
 Ret X w38 [b3] [] x39))) ∧ (
 AskNew w11 fun b3 =>
 AskW X w11 [b2] (kb3_4 b0 b1 b2 b3 x2 x4 x14) false 13 [x2] fun x15 w15 =>
 AskW X w15 [] (kb3_4 b0 b1 b2 b3 x2 x4 x14) false 10 [x2] fun x16 w16 =>
 AskW X w16 [] (kb3_4 b0 b1 b2 b3 x2 x4 x14) false 14 [x2] fun x17 w17 =>
 Ask (rSel (aggArr x2) 19 4 true) fun x18 =>
 AskF X 15 [x18] fun x19 =>
 Ask (rSel (aggArr x2) 23 4 true) fun x20 =>
 AskF X 15 [x20] fun x21 =>
 Ask (rSel (aggArr x2) 27 4 true) fun x22 =>
 AskF X 15 [x22] fun x23 =>
 AskW X w17 [] (kb3_4 b0 b1 b2 b3 x2 x4 x14) false 16 [x2] fun x24 w24 =>
 AskW X w24 [] (kb3_4 b0 b1 b2 b3 x2 x4 x14) false 12 [x15, x16, x17, x19, x21, x23, x24] fun x25 w25 =>
 Ask (rExt X.P x25 0) fun x26 =>
 Ask (rExt X.P x25 1) fun x27 =>
 Ask (rAgg 18 x26) fun x28 =>
 Ask (rBin X.P .eql 37 false false x13 x27) fun x29 =>
 AskGW X [(x29, true)] w25 [b3] (kb3_3 b0 b1 b2 b3 x2 x4 x14 x28) false 17 [x14, x28] fun x30 w30 =>
 Ask (rPick x29 x30 (.bool false)) fun x31 =>
 AskG [(x31, true)] (rSel (aggArr x4) 0 1 false) fun x32 =>
 AskG [(x31, true)] (rSel (aggArr x2) 49 1 false) fun x33 =>
 AskGW X [(x31, true)] w30 [b3] (kb3_3 b0 b1 b2 b3 x2 x4 x14 x28) false 18 [x32, x33] fun x34 w34 =>
 Ask (rPick x31 x34 (.bool false)) fun x35 =>
 AskG [(x35, true)] (rSel (aggArr x4) 1 1 false) fun x36 =>
 AskG [(x35, true)] (rSel (aggArr x2) 50 1 false) fun x37 =>
 AskGW X [(x35, true)] w34 [b3] (kb3_3 b0 b1 b2 b3 x2 x4 x14 x28) false 18 [x36, x37] fun x38 w38 =>
 Ask (rPick x35 x38 (.bool false)) fun x39 =>
 Ret X w38 [b3] [] x39))))) ∧ (
 AskW X w3 [b1] (kb3_1 b0 b1 x2 x4) false 9 [x2] fun x5 w5 =>
 AskNew w5 fun b2 =>
 AskW X w5 [] (kb3_5 b0 b1 b2 x2 x4) false 10 [x2] fun x6 w6 =>
 AskW X w6 [] (kb3_5 b0 b1 b2 x2 x4) false 11 [x2] fun x7 w7 =>
 Ask (rSel (aggArr x2) 19 4 true) fun x8 =>
 Ask (rSel (aggArr x2) 23 4 true) fun x9 =>
 Ask (rSel (aggArr x2) 27 4 true) fun x10 =>
 AskW X w7 [] (kb3_5 b0 b1 b2 x2 x4) false 8 [x5, x6, x7, x8, x9, x10, x4] fun x11 w11 =>
 Ask (rExt X.P x11 0) fun x12 =>
 Ask (rExt X.P x11 1) fun x13 =>
 Ask (rAgg 18 x12) fun x14 =>
 ((
 ((
 ((
 ((
 ((
 AskW X w11 [b2] (kb3_2 b0 b1 b2 x2 x4 x14) false 13 [x2] fun x15 w15 =>
 AskW X w15 [] (kb3_2 b0 b1 b2 x2 x4 x14) false 10 [x2] fun x16 w16 =>
 AskW X w16 [] (kb3_2 b0 b1 b2 x2 x4 x14) false 14 [x2] fun x17 w17 =>
 Ask (rSel (aggArr x2) 19 4 true) fun x18 =>
 AskF X 15 [x18] fun x19 =>
 Ask (rSel (aggArr x2) 23 4 true) fun x20 =>
 AskF X 15 [x20] fun x21 =>
 Ask (rSel (aggArr x2) 27 4 true) fun x22 =>
 AskF X 15 [x22] fun x23 =>
 AskW X w17 [] (kb3_2 b0 b1 b2 x2 x4 x14) false 16 [x2] fun x24 w24 =>
 AskW X w24 [] (kb3_2 b0 b1 b2 x2 x4 x14) false 12 [x15, x16, x17, x19, x21, x23, x24] fun x25 w25 =>
 Ask (rExt X.P x25 0) fun x26 =>
 Ask (rExt X.P x25 1) fun x27 =>
 AskNew w25 fun b3 =>
 Ask (rAgg 18 x26) fun x28 =>
 Ask (rBin X.P .eql 37 false false x13 x27) fun x29 =>
 AskGW X [(x29, true)] w25 [b3] (kb3_3 b0 b1 b2 b3 x2 x4 x14 x28) false 17 [x14, x28] fun x30 w30 =>
 Ask (rPick x29 x30 (.bool false)) fun x31 =>
 AskG [(x31, true)] (rSel (aggArr x4) 0 1 false) fun x32 =>
 AskG [(x31, true)] (rSel (aggArr x2) 49 1 false) fun x33 =>
 AskGW X [(x31, true)] w30 [b3] (kb3_3 b0 b1 b2 b3 x2 x4 x14 x28) false 18 [x32, x33] fun x34 w34 =>
 Ask (rPick x31 x34 (.bool false)) fun x35 =>
 AskG [(x35, true)] (rSel (aggArr x4) 1 1 false) fun x36 =>
 AskG [(x35, true)] (rSel (aggArr x2) 50 1 false) fun x37 =>
 AskGW X [(x35, true)] w34 [b3] (kb3_3 b0 b1 b2 b3 x2 x4 x14 x28) false 18 [x36, x37] fun x38 w38 =>
 Ask (rPick x35 x38 (.bool false)) fun x39 =>
 Ret X w38 [b3] [] x39) ∧ (
 AskW X w11 [b2] (kb3_2 b0 b1 b2 x2 x4 x14) false 13 [x2] fun x15 w15 =>
 AskW X w15 [] (kb3_2 b0 b1 b2 x2 x4 x14) false 10 [x2] fun x16 w16 =>
 AskW X w16 [] (kb3_2 b0 b1 b2 x2 x4 x14) false 14 [x2] fun x17 w17 =>
 Ask (rSel (aggArr x2) 19 4 true) fun x18 =>
 AskF X 15 [x18] fun x19 =>
 Ask (rSel (aggArr x2) 23 4 true) fun x20 =>
 AskF X 15 [x20] fun x21 =>
 Ask (rSel (aggArr x2) 27 4 true) fun x22 =>
 AskF X 15 [x22] fun x23 =>
 AskW X w17 [] (kb3_2 b0 b1 b2 x2 x4 x14) false 16 [x2] fun x24 w24 =>
 AskNew w24 fun b3 =>
 AskW X w24 [] (kb3_4 b0 b1 b2 b3 x2 x4 x14) false 12 [x15, x16, x17, x19, x21, x23, x24] fun x25 w25 =>
 Ask (rExt X.P x25 0) fun x26 =>
 Ask (rExt X.P x25 1) fun x27 =>
 Ask (rAgg 18 x26) fun x28 =>
 Ask (rBin X.P .eql 37 false false x13 x27) fun x29 =>
 AskGW X [(x29, true)] w25 [b3] (kb3_3 b0 b1 b2 b3 x2 x4 x14 x28) false 17 [x14, x28] fun x30 w30 =>
 Ask (rPick x29 x30 (.bool false)) fun x31 =>
 AskG [(x31, true)] (rSel (aggArr x4) 0 1 false) fun x32 =>
 AskG [(x31, true)] (rSel (aggArr x2) 49 1 false) fun x33 =>
 AskGW X [(x31, true)] w30 [b3] (kb3_3 b0 b1 b2 b3 x2 x4 x14 x28) false 18 [x32, x33] fun x34 w34 =>
 Ask (rPick x31 x34 (.bool false)) fun x35 =>
 AskG [(x35, true)] (rSel (aggArr x4) 1 1 false) fun x36 =>
 AskG [(x35, true)] (rSel (aggArr x2) 50 1 false) fun x37 =>
 AskGW X [(x35, true)] w34 [b3] (kb3_3 b0 b1 b2 b3 x2 x4 x14 x28) false 18 [x36, x37] fun x38 w38 =>
 Ask (rPick x35 x38 (.bool false)) fun x39 =>
 Ret X w38 [b3] [] x39))) ∧ (
 AskW X w11 [b2] (kb3_2 b0 b1 b2 x2 x4 x14) false 13 [x2] fun x15 w15 =>
 AskW X w15 [] (kb3_2 b0 b1 b2 x2 x4 x14) false 10 [x2] fun x16 w16 =>
 AskW X w16 [] (kb3_2 b0 b1 b2 x2 x4 x14) false 14 [x2] fun x17 w17 =>
 AskNew w17 fun b3 =>
 Ask (rSel (aggArr x2) 19 4 true) fun x18 =>
 AskF X 15 [x18] fun x19 =>
 Ask (rSel (aggArr x2) 23 4 true) fun x20 =>
 AskF X 15 [x20] fun x21 =>
 Ask (rSel (aggArr x2) 27 4 true) fun x22 =>
 AskF X 15 [x22] fun x23 =>
 AskW X w17 [] (kb3_4 b0 b1 b2 b3 x2 x4 x14) false 16 [x2] fun x24 w24 =>
 AskW X w24 [] (kb3_4 b0 b1 b2 b3 x2 x4 x14) false 12 [x15, x16, x17, x19, x21, x23, x24] fun x25 w25 =>
 Ask (rExt X.P x25 0) fun x26 =>
 Ask (rExt X.P x25 1) fun x27 =>
 Ask (rAgg 18 x26) fun x28 =>
 Ask (rBin X.P .eql 37 false false x13 x27) fun x29 =>
 AskGW X [(x29, true)] w25 [b3] (kb3_3 b0 b1 b2 b3 x2 x4 x14 x28) false 17 [x14, x28] fun x30 w30 =>
 Ask (rPick x29 x30 (.bool false)) fun x31 =>
 AskG [(x31, true)] (rSel (aggArr x4) 0 1 false) fun x32 =>
 AskG [(x31, true)] (rSel (aggArr x2) 49 1 false) fun x33 =>
 AskGW X [(x31, true)] w30 [b3] (kb3_3 b0 b1 b2 b3 x2 x4 x14 x28) false 18 [x32, x33] fun x34 w34 =>
 Ask (rPick x31 x34 (.bool false)) fun x35 =>
 AskG [(x35, true)] (rSel (aggArr x4) 1 1 false) fun x36 =>
 AskG [(x35, true)] (rSel (aggArr x2) 50 1 false) fun x37 =>
 AskGW X [(x35, true)] w34 [b3] (kb3_3 b0 b1 b2 b3 x2 x4 x14 x28) false 18 [x36, x37] fun x38 w38 =>
 Ask (rPick x35 x38 (.bool false)) fun x39 =>
 Ret X w38 [b3] [] x39))) ∧ (
 AskW X w11 [b2] (kb3_2 b0 b1 b2 x2 x4 x14) false 13 [x2] fun x15 w15 =>
 AskW X w15 [] (kb3_2 b0 b1 b2 x2 x4 x14) false 10 [x2] fun x16 w16 =>
 AskNew w16 fun b3 =>
 AskW X w16 [] (kb3_4 b0 b1 b2 b3 x2 x4 x14) false 14 [x2] fun x17 w17 =>
 Ask (rSel (aggArr x2) 19 4 true) fun x18 =>
 AskF X 15 [x18] fun x19 =>
 Ask (rSel (aggArr x2) 23 4 true) fun x20 =>
 AskF X 15 [x20] fun x21 =>
 Ask (rSel (aggArr x2) 27 4 true) fun x22 =>
 AskF X 15 [x22] fun x23 =>
 AskW X w17 [] (kb3_4 b0 b1 b2 b3 x2 x4 x14) false 16 [x2] fun x24 w24 =>
 AskW X w24 [] (kb3_4 b0 b1 b2 b3 x2 x4 x14) false 12 [x15, x16, x17, x19, x21, x23, x24] fun x25 w25 =>
 Ask (rExt X.P x25 0) fun x26 =>
 Ask (rExt X.P x25 1) fun x27 =>
 Ask (rAgg 18 x26) fun x28 =>
 Ask (rBin X.P .eql 37 false false x13 x27) fun x29 =>
 AskGW X [(x29, true)] w25 [b3] (kb3_3 b0 b1 b2 b3 x2 x4 x14 x28) false 17 [x14, x28] fun x30 w30 =>
 Ask (rPick x29 x30 (.bool false)) fun x31 =>
 AskG [(x31, true)] (rSel (aggArr x4) 0 1 false) fun x32 =>
 AskG [(x31, true)] (rSel (aggArr x2) 49 1 false) fun x33 =>
 AskGW X [(x31, true)] w30 [b3] (kb3_3 b0 b1 b2 b3 x2 x4 x14 x28) false 18 [x32, x33] fun x34 w34 =>
 Ask (rPick x31 x34 (.bool false)) fun x35 =>
 AskG [(x35, true)] (rSel (aggArr x4) 1 1 false) fun x36 =>
 AskG [(x35, true)] (rSel (aggArr x2) 50 1 false) fun x37 =>
 AskGW X [(x35, true)] w34 [b3] (kb3_3 b0 b1 b2 b3 x2 x4 x14 x28) false 18 [x36, x37] fun x38 w38 =>
 Ask (rPick x35 x38 (.bool false)) fun x39 =>
 Ret X w38 [b3] [] x39))) ∧ (
 AskW X w11 [b2] (kb3_2 b0 b1 b2 x2 x4 x14) false 13 [x2] fun x15 w15 =>
 AskNew w15 fun b3 =>
 AskW X w15 [] (kb3_4 b0 b1 b2 b3 x2 x4 x14) false 10 [x2] fun x16 w16 =>
 AskW X w16 [] (kb3_4 b0 b1 b2 b3 x2 x4 x14) false 14 [x2] fun x17 w17 =>
 Ask (rSel (aggArr x2) 19 4 true) fun x18 =>
 AskF X 15 [x18] fun x19 =>
 Ask (rSel (aggArr x2) 23 4 true) fun x20 =>
 AskF X 15 [x20] fun x21 =>
 Ask (rSel (aggArr x2) 27 4 true) fun x22 =>
 AskF X 15 [x22] fun x23 =>
 AskW X w17 [] (kb3_4 b0 b1 b2 b3 x2 x4 x14) false 16 [x2] fun x24 w24 =>
 AskW X w24 [] (kb3_4 b0 b1 b2 b3 x2 x4 x14) false 12 [x15, x16, x17, x19, x21, x23, x24] fun x25 w25 =>
 Ask (rExt X.P x25 0) fun x26 =>
 Ask (rExt X.P x25 1) fun x27 =>
 Ask (rAgg 18 x26) fun x28 =>
 Ask (rBin X.P .eql 37 false false x13 x27) fun x29 =>
 AskGW X [(x29, true)] w25 [b3] (kb3_3 b0 b1 b2 b3 x2 x4 x14 x28) false 17 [x14, x28] fun x30 w30 =>
 Ask (rPick x29 x30 (.bool false)) fun x31 =>
 AskG [(x31, true)] (rSel (aggArr x4) 0 1 false) fun x32 =>
 AskG [(x31, true)] (rSel (aggArr x2) 49 1 false) fun x33 =>
 AskGW X [(x31, true)] w30 [b3] (kb3_3 b0 b1 b2 b3 x2 x4 x14 x28) false 18 [x32, x33] fun x34 w34 =>
 Ask (rPick x31 x34 (.bool false)) fun x35 =>
 AskG [(x35, true)] (rSel (aggArr x4) 1 1 false) fun x36 =>
 AskG [(x35, true)] (rSel (aggArr x2) 50 1 false) fun x37 =>
 AskGW X [(x35, true)] w34 [b3] (kb3_3 b0 b1 b2 b3 x2 x4 x14 x28) false 18 [x36, x37] fun x38 w38 =>
 Ask (rPick x35 x38 (.bool false)) fun x39 =>
 Ret X w38 [b3] [] x39))) ∧ (
 AskNew w11 fun b3 =>
 AskW X w11 [b2] (kb3_4 b0 b1 b2 b3 x2 x4 x14) false 13 [x2] fun x15 w15 =>
 AskW X w15 [] (kb3_4 b0 b1 b2 b3 x2 x4 x14) false 10 [x2] fun x16 w16 =>
 AskW X w16 [] (kb3_4 b0 b1 b2 b3 x2 x4 x14) false 14 [x2] fun x17 w17 =>
 Ask (rSel (aggArr x2) 19 4 true) fun x18 =>
 AskF X 15 [x18] fun x19 =>
 Ask (rSel (aggArr x2) 23 4 true) fun x20 =>
 AskF X 15 [x20] fun x21 =>
 Ask (rSel (aggArr x2) 27 4 true) fun x22 =>
 AskF X 15 [x22] fun x23 =>
 AskW X w17 [] (kb3_4 b0 b1 b2 b3 x2 x4 x14) false 16 [x2] fun x24 w24 =>
 AskW X w24 [] (kb3_4 b0 b1 b2 b3 x2 x4 x14) false 12 [x15, x16, x17, x19, x21, x23, x24] fun x25 w25 =>
 Ask (rExt X.P x25 0) fun x26 =>
 Ask (rExt X.P x25 1) fun x27 =>
 Ask (rAgg 18 x26) fun x28 =>
 Ask (rBin X.P .eql 37 false false x13 x27) fun x29 =>
 AskGW X [(x29, true)] w25 [b3] (kb3_3 b0 b1 b2 b3 x2 x4 x14 x28) false 17 [x14, x28] fun x30 w30 =>
 Ask (rPick x29 x30 (.bool false)) fun x31 =>
 AskG [(x31, true)] (rSel (aggArr x4) 0 1 false) fun x32 =>
 AskG [(x31, true)] (rSel (aggArr x2) 49 1 false) fun x33 =>
 AskGW X [(x31, true)] w30 [b3] (kb3_3 b0 b1 b2 b3 x2 x4 x14 x28) false 18 [x32, x33] fun x34 w34 =>
 Ask (rPick x31 x34 (.bool false)) fun x35 =>
 AskG [(x35, true)] (rSel (aggArr x4) 1 1 false) fun x36 =>
 AskG [(x35, true)] (rSel (aggArr x2) 50 1 false) fun x37 =>
 AskGW X [(x35, true)] w34 [b3] (kb3_3 b0 b1 b2 b3 x2 x4 x14 x28) false 18 [x36, x37] fun x38 w38 =>
 Ask (rPick x35 x38 (.bool false)) fun x39 =>
 Ret X w38 [b3] [] x39))))) ∧ (
 AskNew w3 fun b2 =>
 AskW X w3 [b1] (kb3_5 b0 b1 b2 x2 x4) false 9 [x2] fun x5 w5 =>
 AskW X w5 [] (kb3_5 b0 b1 b2 x2 x4) false 10 [x2] fun x6 w6 =>
 AskW X w6 [] (kb3_5 b0 b1 b2 x2 x4) false 11 [x2] fun x7 w7 =>
 Ask (rSel (aggArr x2) 19 4 true) fun x8 =>
 Ask (rSel (aggArr x2) 23 4 true) fun x9 =>
 Ask (rSel (aggArr x2) 27 4 true) fun x10 =>
 AskW X w7 [] (kb3_5 b0 b1 b2 x2 x4) false 8 [x5, x6, x7, x8, x9, x10, x4] fun x11 w11 =>
 Ask (rExt X.P x11 0) fun x12 =>
 Ask (rExt X.P x11 1) fun x13 =>
 Ask (rAgg 18 x12) fun x14 =>
 ((
 ((
 ((
 ((
 ((
 AskW X w11 [b2] (kb3_2 b0 b1 b2 x2 x4 x14) false 13 [x2] fun x15 w15 =>
 AskW X w15 [] (kb3_2 b0 b1 b2 x2 x4 x14) false 10 [x2] fun x16 w16 =>
 AskW X w16 [] (kb3_2 b0 b1 b2 x2 x4 x14) false 14 [x2] fun x17 w17 =>
 Ask (rSel (aggArr x2) 19 4 true) fun x18 =>
 AskF X 15 [x18] fun x19 =>
 Ask (rSel (aggArr x2) 23 4 true) fun x20 =>
 AskF X 15 [x20] fun x21 =>
 Ask (rSel (aggArr x2) 27 4 true) fun x22 =>
 AskF X 15 [x22] fun x23 =>
 AskW X w17 [] (kb3_2 b0 b1 b2 x2 x4 x14) false 16 [x2] fun x24 w24 =>
 AskW X w24 [] (kb3_2 b0 b1 b2 x2 x4 x14) false 12 [x15, x16, x17, x19, x21, x23, x24] fun x25 w25 =>
 Ask (rExt X.P x25 0) fun x26 =>
 Ask (rExt X.P x25 1) fun x27 =>
 AskNew w25 fun b3 =>
 Ask (rAgg 18 x26) fun x28 =>
 Ask (rBin X.P .eql 37 false false x13 x27) fun x29 =>
 AskGW X [(x29, true)] w25 [b3] (kb3_3 b0 b1 b2 b3 x2 x4 x14 x28) false 17 [x14, x28] fun x30 w30 =>
 Ask (rPick x29 x30 (.bool false)) fun x31 =>
 AskG [(x31, true)] (rSel (aggArr x4) 0 1 false) fun x32 =>
 AskG [(x31, true)] (rSel (aggArr x2) 49 1 false) fun x33 =>
 AskGW X [(x31, true)] w30 [b3] (kb3_3 b0 b1 b2 b3 x2 x4 x14 x28) false 18 [x32, x33] fun x34 w34 =>
 Ask (rPick x31 x34 (.bool false)) fun x35 =>
 AskG [(x35, true)] (rSel (aggArr x4) 1 1 false) fun x36 =>
 AskG [(x35, true)] (rSel (aggArr x2) 50 1 false) fun x37 =>
 AskGW X [(x35, true)] w34 [b3] (kb3_3 b0 b1 b2 b3 x2 x4 x14 x28) false 18 [x36, x37] fun x38 w38 =>
 Ask (rPick x35 x38 (.bool false)) fun x39 =>
 Ret X w38 [b3] [] x39) ∧ (
 AskW X w11 [b2] (kb3_2 b0 b1 b2 x2 x4 x14) false 13 [x2] fun x15 w15 =>
 AskW X w15 [] (kb3_2 b0 b1 b2 x2 x4 x14) false 10 [x2] fun x16 w16 =>
 AskW X w16 [] (kb3_2 b0 b1 b2 x2 x4 x14) false 14 [x2] fun x17 w17 =>
 Ask (rSel (aggArr x2) 19 4 true) fun x18 =>
 AskF X 15 [x18] fun x19 =>
 Ask (rSel (aggArr x2) 23 4 true) fun x20 =>
 AskF X 15 [x20] fun x21 =>
 Ask (rSel (aggArr x2) 27 4 true) fun x22 =>
 AskF X 15 [x22] fun x23 =>
 AskW X w17 [] (kb3_2 b0 b1 b2 x2 x4 x14) false 16 [x2] fun x24 w24 =>
 AskNew w24 fun b3 =>
 AskW X w24 [] (kb3_4 b0 b1 b2 b3 x2 x4 x14) false 12 [x15, x16, x17, x19, x21, x23, x24] fun x25 w25 =>
 Ask (rExt X.P x25 0) fun x26 =>
 Ask (rExt X.P x25 1) fun x27 =>
 Ask (rAgg 18 x26) fun x28 =>
 Ask (rBin X.P .eql 37 false false x13 x27) fun x29 =>
 AskGW X [(x29, true)] w25 [b3] (kb3_3 b0 b1 b2 b3 x2 x4 x14 x28) false 17 [x14, x28] fun x30 w30 =>
 Ask (rPick x29 x30 (.bool false)) fun x31 =>
 AskG [(x31, true)] (rSel (aggArr x4) 0 1 false) fun x32 =>
 AskG [(x31, true)] (rSel (aggArr x2) 49 1 false) fun x33 =>
 AskGW X [(x31, true)] w30 [b3] (kb3_3 b0 b1 b2 b3 x2 x4 x14 x28) false 18 [x32, x33] fun x34 w34 =>
 Ask (rPick x31 x34 (.bool false)) fun x35 =>
 AskG [(x35, true)] (rSel (aggArr x4) 1 1 false) fun x36 =>
 AskG [(x35, true)] (rSel (aggArr x2) 50 1 false) fun x37 =>
 AskGW X [(x35, true)] w34 [b3] (kb3_3 b0 b1 b2 b3 x2 x4 x14 x28) false 18 [x36, x37] fun x38 w38 =>
 Ask (rPick x35 x38 (.bool false)) fun x39 =>
 Ret X w38 [b3] [] x39))) ∧ (
 AskW X w11 [b2] (kb3_2 b0 b1 b2 x2 x4 x14) false 13 [x2] fun x15 w15 =>
 AskW X w15 [] (kb3_2 b0 b1 b2 x2 x4 x14) false 10 [x2] fun x16 w16 =>
 AskW X w16 [] (kb3_2 b0 b1 b2 x2 x4 x14) false 14 [x2] fun x17 w17 =>
 AskNew w17 fun b3 =>
 Ask (rSel (aggArr x2) 19 4 true) fun x18 =>
 AskF X 15 [x18] fun x19 =>
 Ask (rSel (aggArr x2) 23 4 true) fun x20 =>
 AskF X 15 [x20] fun x21 =>
 Ask (rSel (aggArr x2) 27 4 true) fun x22 =>
 AskF X 15 [x22] fun x23 =>
 AskW X w17 [] (kb3_4 b0 b1 b2 b3 x2 x4 x14) false 16 [x2] fun x24 w24 =>
 AskW X w24 [] (kb3_4 b0 b1 b2 b3 x2 x4 x14) false 12 [x15, x16, x17, x19, x21, x23, x24] fun x25 w25 =>
 Ask (rExt X.P x25 0) fun x26 =>
 Ask (rExt X.P x25 1) fun x27 =>
 Ask (rAgg 18 x26) fun x28 =>
 Ask (rBin X.P .eql 37 false false x13 x27) fun x29 =>
 AskGW X [(x29, true)] w25 [b3] (kb3_3 b0 b1 b2 b3 x2 x4 x14 x28) false 17 [x14, x28] fun x30 w30 =>
 Ask (rPick x29 x30 (.bool false)) fun x31 =>
 AskG [(x31, true)] (rSel (aggArr x4) 0 1 false) fun x32 =>
 AskG [(x31, true)] (rSel (aggArr x2) 49 1 false) fun x33 =>
 AskGW X [(x31, true)] w30 [b3] (kb3_3 b0 b1 b2 b3 x2 x4 x14 x28) false 18 [x32, x33] fun x34 w34 =>
 Ask (rPick x31 x34 (.bool false)) fun x35 =>
 AskG [(x35, true)] (rSel (aggArr x4) 1 1 false) fun x36 =>
 AskG [(x35, true)] (rSel (aggArr x2) 50 1 false) fun x37 =>
 AskGW X [(x35, true)] w34 [b3] (kb3_3 b0 b1 b2 b3 x2 x4 x14 x28) false 18 [x36, x37] fun x38 w38 =>
 Ask (rPick x35 x38 (.bool false)) fun x39 =>
 Ret X w38 [b3] [] x39))) ∧ (
 AskW X w11 [b2] (kb3_2 b0 b1 b2 x2 x4 x14) false 13 [x2] fun x15 w15 =>
 AskW X w15 [] (kb3_2 b0 b1 b2 x2 x4 x14) false 10 [x2] fun x16 w16 =>
 AskNew w16 fun b3 =>
 AskW X w16 [] (kb3_4 b0 b1 b2 b3 x2 x4 x14) false 14 [x2] fun x17 w17 =>
 Ask (rSel (aggArr x2) 19 4 true) fun x18 =>
 AskF X 15 [x18] fun x19 =>
 Ask (rSel (aggArr x2) 23 4 true) fun x20 =>
 AskF X 15 [x20] fun x21 =>
 Ask (rSel (aggArr x2) 27 4 true) fun x22 =>
 AskF X 15 [x22] fun x23 =>
 AskW X w17 [] (kb3_4 b0 b1 b2 b3 x2 x4 x14) false 16 [x2] fun x24 w24 =>
 AskW X w24 [] (kb3_4 b0 b1 b2 b3 x2 x4 x14) false 12 [x15, x16, x17, x19, x21, x23, x24] fun x25 w25 =>
 Ask (rExt X.P x25 0) fun x26 =>
 Ask (rExt X.P x25 1) fun x27 =>
 Ask (rAgg 18 x26) fun x28 =>
 Ask (rBin X.P .eql 37 false false x13 x27) fun x29 =>
 AskGW X [(x29, true)] w25 [b3] (kb3_3 b0 b1 b2 b3 x2 x4 x14 x28) false 17 [x14, x28] fun x30 w30 =>
 Ask (rPick x29 x30 (.bool false)) fun x31 =>
 AskG [(x31, true)] (rSel (aggArr x4) 0 1 false) fun x32 =>
 AskG [(x31, true)] (rSel (aggArr x2) 49 1 false) fun x33 =>
 AskGW X [(x31, true)] w30 [b3] (kb3_3 b0 b1 b2 b3 x2 x4 x14 x28) false 18 [x32, x33] fun x34 w34 =>
 Ask (rPick x31 x34 (.bool false)) fun x35 =>
 AskG [(x35, true)] (rSel (aggArr x4) 1 1 false) fun x36 =>
 AskG [(x35, true)] (rSel (aggArr x2) 50 1 false) fun x37 =>
 AskGW X [(x35, true)] w34 [b3] (kb3_3 b0 b1 b2 b3 x2 x4 x14 x28) false 18 [x36, x37] fun x38 w38 =>
 Ask (rPick x35 x38 (.bool false)) fun x39 =>
 Ret X w38 [b3] [] x39))) ∧ (
 AskW X w11 [b2] (kb3_2 b0 b1 b2 x2 x4 x14) false 13 [x2] fun x15 w15 =>
 AskNew w15 fun b3 =>
 AskW X w15 [] (kb3_4 b0 b1 b2 b3 x2 x4 x14) false 10 [x2] fun x16 w16 =>
 AskW X w16 [] (kb3_4 b0 b1 b2 b3 x2 x4 x14) false 14 [x2] fun x17 w17 =>
 Ask (rSel (aggArr x2) 19 4 true) fun x18 =>
 AskF X 15 [x18] fun x19 =>
 Ask (rSel (aggArr x2) 23 4 true) fun x20 =>
 AskF X 15 [x20] fun x21 =>
 Ask (rSel (aggArr x2) 27 4 true) fun x22 =>
 AskF X 15 [x22] fun x23 =>
 AskW X w17 [] (kb3_4 b0 b1 b2 b3 x2 x4 x14) false 16 [x2] fun x24 w24 =>
 AskW X w24 [] (kb3_4 b0 b1 b2 b3 x2 x4 x14) false 12 [x15, x16, x17, x19, x21, x23, x24] fun x25 w25 =>
 Ask (rExt X.P x25 0) fun x26 =>
 Ask (rExt X.P x25 1) fun x27 =>
 Ask (rAgg 18 x26) fun x28 =>
 Ask (rBin X.P .eql 37 false false x13 x27) fun x29 =>
 AskGW X [(x29, true)] w25 [b3] (kb3_3 b0 b1 b2 b3 x2 x4 x14 x28) false 17 [x14, x28] fun x30 w30 =>
 Ask (rPick x29 x30 (.bool false)) fun x31 =>
 AskG [(x31, true)] (rSel (aggArr x4) 0 1 false) fun x32 =>
 AskG [(x31, true)] (rSel (aggArr x2) 49 1 false) fun x33 =>
 AskGW X [(x31, true)] w30 [b3] (kb3_3 b0 b1 b2 b3 x2 x4 x14 x28) false 18 [x32, x33] fun x34 w34 =>
 Ask (rPick x31 x34 (.bool false)) fun x35 =>
 AskG [(x35, true)] (rSel (aggArr x4) 1 1 false) fun x36 =>
 AskG [(x35, true)] (rSel (aggArr x2) 50 1 false) fun x37 =>
 AskGW X [(x35, true)] w34 [b3] (kb3_3 b0 b1 b2 b3 x2 x4 x14 x28) false 18 [x36, x37] fun x38 w38 =>
 Ask (rPick x35 x38 (.bool false)) fun x39 =>
 Ret X w38 [b3] [] x39))) ∧ (
 AskNew w11 fun b3 =>
 AskW X w11 [b2] (kb3_4 b0 b1 b2 b3 x2 x4 x14) false 13 [x2] fun x15 w15 =>
 AskW X w15 [] (kb3_4 b0 b1 b2 b3 x2 x4 x14) false 10 [x2] fun x16 w16 =>
 AskW X w16 [] (kb3_4 b0 b1 b2 b3 x2 x4 x14) false 14 [x2] fun x17 w17 =>
 Ask (rSel (aggArr x2) 19 4 true) fun x18 =>
 AskF X 15 [x18] fun x19 =>
 Ask (rSel (aggArr x2) 23 4 true) fun x20 =>
 AskF X 15 [x20] fun x21 =>
 Ask (rSel (aggArr x2) 27 4 true) fun x22 =>
 AskF X 15 [x22] fun x23 =>
 AskW X w17 [] (kb3_4 b0 b1 b2 b3 x2 x4 x14) false 16 [x2] fun x24 w24 =>
 AskW X w24 [] (kb3_4 b0 b1 b2 b3 x2 x4 x14) false 12 [x15, x16, x17, x19, x21, x23, x24] fun x25 w25 =>
 Ask (rExt X.P x25 0) fun x26 =>
 Ask (rExt X.P x25 1) fun x27 =>
 Ask (rAgg 18 x26) fun x28 =>
 Ask (rBin X.P .eql 37 false false x13 x27) fun x29 =>
 AskGW X [(x29, true)] w25 [b3] (kb3_3 b0 b1 b2 b3 x2 x4 x14 x28) false 17 [x14, x28] fun x30 w30 =>
 Ask (rPick x29 x30 (.bool false)) fun x31 =>
 AskG [(x31, true)] (rSel (aggArr x4) 0 1 false) fun x32 =>
 AskG [(x31, true)] (rSel (aggArr x2) 49 1 false) fun x33 =>
 AskGW X [(x31, true)] w30 [b3] (kb3_3 b0 b1 b2 b3 x2 x4 x14 x28) false 18 [x32, x33] fun x34 w34 =>
 Ask (rPick x31 x34 (.bool false)) fun x35 =>
 AskG [(x35, true)] (rSel (aggArr x4) 1 1 false) fun x36 =>
 AskG [(x35, true)] (rSel (aggArr x2) 50 1 false) fun x37 =>
 AskGW X [(x35, true)] w34 [b3] (kb3_3 b0 b1 b2 b3 x2 x4 x14 x28) false 18 [x36, x37] fun x38 w38 =>
 Ask (rPick x35 x38 (.bool false)) fun x39 =>
 Ret X w38 [b3] [] x39))))) := by kernel_rfl
set_option maxHeartbeats 8000000 in
theorem keepsBacks : Keeps1 Tryz.prog GT 3 cBacks := by
  refine keepsW (T := Tbs) (A := ann3) hMix keepTbs hGT (calls_of (by kernel_rfl)) (callsW_of (by kernel_rfl)) fun args d w0 hrd hpre hg => ?_
  obtain ⟨g, h, v, bl, c, sl, sr, l, r, rfl, ok, at0⟩ := hrd
  refine ⟨[.x (.v 0)], [], [], 2, env0 [.agg (csL d g h v bl c sl sr l r).toArray] w0, fun b => b, 0, rfl, rfl, fun X hX => mem_none hX rfl, fun X hP hS hw hX hR => ?_⟩
  subst hw; try dsimp only at hR
  rw [vc3 X]
  refine a_agg (csL_len _ _ _ _ _ _ _ _ _ _) at0.one ?_
  intro b0 hb0
  have caseRd : ∀ {w : World}, Stp [] X.w0 w → cCs.rd w [.agg (csL d g h v bl c sl sr l r).toArray] d := fun hs => ⟨g, h, v, bl, c, sl, sr, l, r, rfl, ok, at0.stp0 hs⟩
  refine call_W hX hS (T := Tbs) (f := 7) rfl d (fun w hw => ⟨caseRd hw.stp, trivial⟩) fun x3 u3 w3 h3 k3 s3 su3 q3 => ?_
  obtain ⟨lt, rt, rfl, hlt, hrt, _⟩ := q3
  intro b1 hb1
  refine a_agg (stNL_len _ _ _) (stNL_one (slAt_one hlt.ls.1) (slAt_one hrt.ls.1)) ?_
  refine ⟨⟨⟨⟨?_, ?_⟩, ?_⟩, ?_⟩, ?_⟩
  all_goals
    try intro b2 hb2
    refine call_W hX hS (T := Tbs) (f := 9) rfl d (fun w hw => ⟨caseRd (su3.trans0 (hw.stp.drop (all1 hb1))), trivial⟩) fun x5 u5 w5 h5 k5 s5 su5 q5 => ?_
    replace su5 := su5.drop (all1 hb1)
    try intro b2 hb2
    refine call_W hX hS (T := Tbs) (f := 10) rfl d (fun w hw => ⟨caseRd (su3.trans0 (su5.trans0 hw.stp)), trivial⟩) fun x6 u6 w6 h6 k6 s6 su6 q6 => ?_
    subst q6
    try intro b2 hb2
    refine call_W hX hS (T := Tbs) (f := 11) rfl d (fun w hw => ⟨caseRd (su3.trans0 (su5.trans0 (su6.trans0 hw.stp))), trivial⟩) fun x7 u7 w7 h7 k7 s7 su7 q7 => ?_
    try intro b2 hb2
    refine a_selL (ds := encS d.y) (by kernel_rfl) (by rw [csL_len]; omega) ?_
    refine a_selL (ds := encS d.z) (by kernel_rfl) (by rw [csL_len]; omega) ?_
    refine a_selL (ds := encS d.x) (by kernel_rfl) (by rw [csL_len]; omega) ?_
    refine call_W hX hS (T := Tbs) (f := 8) rfl (bkP d) (fun w hw => ⟨⟨_, _, rfl, cSetN_stable _ _ _ _ (su6.trans0 (su7.trans0 hw.stp)) q5, _, _, rfl, rfl, _, _, rfl, ⟨(own_slAt q7).stp0 hw.stp, opP_ok at0.v.2 at0.bl.2⟩, _, _, rfl, ⟨rfl, ok.y⟩, _, _, rfl, ⟨rfl, ok.z⟩, _, _, rfl, ⟨rfl, ok.x⟩, _, _, rfl, ⟨⟨ok.taux, ok.mu, ok.S, ok.T2⟩, lt, rt, rfl, (hlt.stp0 (su5.trans0 (su6.trans0 (su7.trans0 hw.stp)))).ls, (hrt.stp0 (su5.trans0 (su6.trans0 (su7.trans0 hw.stp)))).ls⟩, rfl⟩, trivial⟩) fun x11 u11 w11 h11 k11 s11 su11 q11 => ?_
    obtain ⟨_, rfl, lo, ro, rfl, hlo, hro, hoo⟩ := q11
    have t11 : Stp [] w3 w11 := su5.trans0 (su6.trans0 (su7.trans0 su11))
    rw [ask_ext0, ask_ext1]
    try intro b2 hb2
    refine a_agg (tpL_len _ _ _) (tpL_one (slAt_one hlo.1) (slAt_one hro.1)) ?_
    have z311 := t11.size
    have y5 := su5.size
    have y6 := su6.size
    have y7 := su7.size
    have y11 := su11.size
    have z2 : w3.heap.size ≤ b2 := by omega
    have n2 : ∀ x ∈ [lo, ro], ∀ g, x.ownBlock = some g → g ∉ [b2] := by
      first
        | exact fun x hx g hg hm => by
            have := hoo x hx g hg
            simp at hm; omega
        | exact fun x hx g hg hm => by
            have := hoo x hx g hg
            have l2 : b2 < u11.heap.size := h11.low (by simp [kb3_5])
            simp at hm; omega
    refine ⟨⟨⟨⟨⟨?_, ?_⟩, ?_⟩, ?_⟩, ?_⟩, ?_⟩
    all_goals
      try intro b3 hb3
      refine call_W hX hS (T := Tbs) (f := 13) rfl d (fun w hw => ⟨caseRd (su3.trans0 ((t11.trans hw.stp).drop (all1 z2))), trivial⟩) fun x15 u15 w15 h15 k15 s15 su15 q15 => ?_
      have t15 : Stp [] w3 w15 := (t11.trans su15).drop (all1 z2)
      try intro b3 hb3
      refine call_W hX hS (T := Tbs) (f := 10) rfl d (fun w hw => ⟨caseRd (su3.trans0 (t15.trans0 hw.stp)), trivial⟩) fun x16 u16 w16 h16 k16 s16 su16 q16 => ?_
      subst q16
      try intro b3 hb3
      refine call_W hX hS (T := Tbs) (f := 14) rfl d (fun w hw => ⟨caseRd (su3.trans0 (t15.trans0 (su16.trans0 hw.stp))), trivial⟩) fun x17 u17 w17 h17 k17 s17 su17 q17 => ?_
      try intro b3 hb3
      refine a_selL (ds := encS d.y) (by kernel_rfl) (by rw [csL_len]; omega) ?_
      refine call_PE hS (T := Tbs) (f := 15) rfl d.y ok.y ?_
      refine a_selL (ds := encS d.z) (by kernel_rfl) (by rw [csL_len]; omega) ?_
      refine call_PE hS (T := Tbs) (f := 15) rfl d.z ok.z ?_
      refine a_selL (ds := encS d.x) (by kernel_rfl) (by rw [csL_len]; omega) ?_
      refine call_PE hS (T := Tbs) (f := 15) rfl d.x ok.x ?_
      refine call_W hX hS (T := Tbs) (f := 16) rfl d (fun w hw => ⟨caseRd (su3.trans0 (t15.trans0 (su16.trans0 (su17.trans0 hw.stp)))), trivial⟩) fun x24 u24 w24 h24 k24 s24 su24 q24 => ?_
      try intro b3 hb3
      refine call_W hX hS (T := Tbs) (f := 12) rfl (dD d) (fun w hw => ⟨⟨_, _, rfl, cRSetF_stable _ _ _ _ (su16.trans0 (su17.trans0 (su24.trans0 hw.stp))) q15, _, _, rfl, rfl, _, _, rfl, ⟨(own_slAt q17).stp0 (su24.trans0 hw.stp), opD_ok at0.v.2⟩, _, _, rfl, rfl, _, _, rfl, rfl, _, _, rfl, rfl, _, _, rfl, cStF_stable _ _ _ _ hw.stp q24, rfl⟩, trivial⟩) fun x25 u25 w25 h25 k25 s25 su25 q25 => ?_
      rw [dD_err, dD_out] at q25
      obtain ⟨_, rfl, lo', ro', rfl, hlo', hro', hoo'⟩ := q25
      have t25 : Stp [] w15 w25 := su16.trans0 (su17.trans0 (su24.trans0 su25))
      rw [ask_ext0, ask_ext1]
      try intro b3 hb3
      have n3' : ∀ x ∈ [lo', ro'], ∀ g, x.ownBlock = some g → g ∉ [b3] := by
        first
          | exact fun x hx g hg hm => by
              have := hoo' x hx g hg
              simp at hm; omega
          | exact fun x hx g hg hm => by
              have := hoo' x hx g hg
              have l3 : b3 < u25.heap.size := h25.low (by simp [kb3_4])
              simp at hm; omega
      have z15 := su15.size
      have z3 : w11.heap.size ≤ b3 := by
        have := t25.size; have := su16.size; have := su17.size; have := su24.size; have := su25.size
        omega
      have z33 : w3.heap.size ≤ b3 := Nat.le_trans t11.size z3
      have n3 : ∀ x ∈ [lo, ro], ∀ g, x.ownBlock = some g → g ∉ [b3] := fun x hx g hg hm => by
        have := hoo x hx g hg
        simp at hm; omega
      refine a_agg (tpL_len _ _ _) (tpL_one (slAt_one hlo'.1) (slAt_one hro'.1)) ?_
      rw [ask_eqlJ, decide_eq_true rfl]
      have c15 : ∀ {w : World}, Stp [b3] w25 w → Stp [] w3 w := fun h => (t15.trans (t25.trans h)).drop (by simpa using z33)
      have p15 : ∀ {w : World} {x : Value} {m : List F}, x ∈ [lo, ro] → LsF w11 x m → Stp [b3] w25 w → LsF w x m := fun hx h hs => ((h.stp su15 (n2 _ hx)).stp0 t25).stp hs (n3 _ hx)
      have mk : ∀ {w : World} {x : Value} {m : List Nat}, MkAt 78 w3 x m → Stp [] w3 w → MkAt 78 w x m := fun h hs => h.stp0 hs
      refine a_GW_on condsV1 (call_W hX hS (T := Tbs) (f := 17) rfl ((bkP d).out, (bkP d).out, ()) (fun w hw => ⟨⟨_, _, rfl, ⟨lo, ro, rfl, p15 (by simp) hlo hw.stp, p15 (by simp) hro hw.stp⟩, _, _, rfl, ⟨lo', ro', rfl, hlo'.stp hw.stp (n3' _ (by simp)), hro'.stp hw.stp (n3' _ (by simp))⟩, rfl⟩, rfl⟩) fun v u30 w30 h30 k30 s30 su30 q30 => ?_)
      subst q30
      rw [ask_pickT]
      have t30 : Stp [] w3 w30 := c15 su30
      refine a_G_on condsV1 (a_sel1 (v := lt) rfl ?_)
      refine a_G_on condsV1 (a_sel1 (v := l) (by kernel_rfl) ?_)
      refine a_GW_on condsV1 (call_W hX hS (T := Tbs) (f := 18) rfl (cut d.L, d.L, ()) (fun w hw => ⟨⟨_, _, rfl, hlt.stp0 ((t30.trans hw.stp).drop (by simpa using z33)), _, _, rfl, (at0.stp0 (su3.trans0 ((t30.trans hw.stp).drop (by simpa using z33)))).l, rfl⟩, rfl⟩) fun v u34 w34 h34 k34 s34 su34 q34 => ?_)
      subst q34
      rw [ask_pickT]
      have t34 : Stp [] w3 w34 := (t30.trans su34).drop (by simpa using z33)
      refine a_G_on condsV1 (a_sel1 (v := rt) rfl ?_)
      refine a_G_on condsV1 (a_sel1 (v := r) (by kernel_rfl) ?_)
      refine a_GW_on condsV1 (call_W hX hS (T := Tbs) (f := 18) rfl (cut d.R, d.R, ()) (fun w hw => ⟨⟨_, _, rfl, hrt.stp0 ((t34.trans hw.stp).drop (by simpa using z33)), _, _, rfl, (at0.stp0 (su3.trans0 ((t34.trans hw.stp).drop (by simpa using z33)))).r, rfl⟩, rfl⟩) fun v u38 w38 h38 k38 s38 su38 q38 => ?_)
      subst q38
      rw [ask_pickT]
      exact hR _ _ _ _ fun _ _ => rfl
#print axioms keepsBacks
end Go.Vc
