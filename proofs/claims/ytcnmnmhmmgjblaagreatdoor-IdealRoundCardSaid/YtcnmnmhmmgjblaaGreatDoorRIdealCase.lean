/-
  A case of the Ideal laws that comes in.
-/
import Derived.Test.YtcnmnmhmmgjblaaGreatDoorDIq
import Derived.Test.YtcnmnmhmmgjblaaGreatDoorRGoes
namespace Go.Proofs.YtcnmnmhmmgjblaaGreatDoor
open Go.ChangeShapes Go.WideShapes Go.ChangeAt Go.WideMaps Go.WideElems Go.RowKit Go.Vc
/-! ### a case that comes in -/
theorem cells_W4 : Tryz.prog.cellsOf 23 = 4 := by kernel_rfl
theorem cells_LW4 : Tryz.prog.cellsOf 24 = 1 := by kernel_rfl
theorem cells_LU64 : Tryz.prog.cellsOf 25 = 1 := by kernel_rfl
theorem cells_Int : Tryz.prog.cellsOf 3 = 1 := by kernel_rfl
section
variable {H : Type} {enc : TypeId × Value → H} {W : World} {base : Nat} {spare : Nat → Bool} {held : Bool}
set_option maxRecDepth 100000 in
theorem elem_W4 {fuel : Nat} {cs : List Value} {x : DataW H × List MemPlace} (h : DataW.trod enc Tryz.prog W base spare held fuel 23 cs = some x) : ∃ a, cs = encS a ∧ a < W256 := trod_S Tryz.underlying23 Tryz.underlying22 cells_u64 cells_W4 h
set_option maxRecDepth 100000 in
theorem elem_U64 {fuel : Nat} {cs : List Value} {x : DataW H × List MemPlace} (h : DataW.trod enc Tryz.prog W base spare held fuel 22 cs = some x) : ∃ a, cs = encU a ∧ a < B64 := by
  obtain ⟨k, e1, _, hw⟩ := DataW.trod_int Tryz.underlying22 h
  have hb : 0 ≤ k ∧ k ≤ 18446744073709551615 := by simpa [Lit.wf, IntKind.min, IntKind.max, IntKind.signed, IntKind.bits] using hw
  exact ⟨k.toNat, by rw [e1]; unfold encU U; congr 2; omega, by simp only [B64]; omega⟩
set_option maxRecDepth 100000 in
theorem in_LW4 {fuel : Nat} {cs : List Value} {x : DataW H × List MemPlace} (hsp : ∀ a l c, cs = [.slice (some a) l c] → a.spot = none) (h : DataW.trod enc Tryz.prog W base spare held fuel 24 cs = some x) : ∃ (v : Value) (l : List Nat), cs = [v] ∧ cLS.rd W v l := by
  obtain ⟨v, l, h1, h2, _⟩ := trod_Ls Tryz.underlying24 cells_W4 encS_len (ok := okS) (fun _ _ _ h => elem_W4 h) hsp h
  exact ⟨v, l, h1, h2⟩
set_option maxRecDepth 100000 in
theorem in_LU64 {fuel : Nat} {cs : List Value} {x : DataW H × List MemPlace} (hsp : ∀ a l c, cs = [.slice (some a) l c] → a.spot = none) (h : DataW.trod enc Tryz.prog W base spare held fuel 25 cs = some x) : ∃ (v : Value) (l : List Nat), cs = [v] ∧ cLU.rd W v l := by
  obtain ⟨v, l, h1, h2, _⟩ := trod_Ls Tryz.underlying25 cells_u64 encU_len (ok := (· < B64)) (fun _ _ _ h => elem_U64 h) hsp h
  exact ⟨v, l, h1, h2⟩
end
set_option maxRecDepth 100000 in
set_option maxHeartbeats 4000000 in
theorem in_Case {H : Type} {enc : TypeId × Value → H} {W : World} {base : Nat} {spare : Nat → Bool} {held : Bool} {r : Reach} {b0 : Nat} {v : Value} {d : DataW H} {p : List MemPlace}
    (hv : Value.okWide Tryz.prog W r b0 27 v) (h : DataW.Trod enc Tryz.prog W base spare held 27 v d p) : ∃ e, cCs.rd W [v] e := by
  obtain ⟨fuel, h⟩ := h
  obtain ⟨xs, n, _, hx, hl, hlen, hf⟩ := DataW.trod_struct Tryz.underlying27 h
  obtain ⟨cs, rfl, hcs⟩ := okWide_struct Tryz.underlying27 hv
  have hrow : Row.okWide Tryz.prog W r b0 27 cs := by
    unfold Value.okWide at hv
    rw [Tryz.underlying27] at hv
    obtain ⟨cs', e, _, hr⟩ := hv
    obtain rfl : cs = cs' := by simpa using e
    exact hr
  obtain ⟨ts, hts, _, hcell⟩ := hrow
  have hts' : Tryz.prog.cellTypes Tryz.prog.depth 27 = some [3, 3, 22, 22, 22, 22, 22, 22, 22, 22, 22, 22, 22, 22, 24, 24, 25, 24, 24, 22, 22, 22, 22, 22, 22, 22, 22, 22, 22, 22, 22, 22, 22, 22, 22, 22, 22, 22, 22, 22, 22, 22, 22, 22, 22, 22, 22, 24, 24, 24, 24, 22, 22, 22, 22, 22, 22, 22, 22, 22, 22, 22, 22, 22, 22, 22, 22] := by kernel_rfl
  obtain rfl : ts = _ := Option.some.inj (hts.symm.trans hts')
  have hcN : Tryz.prog.cellsOf 27 = 67 := by kernel_rfl
  rw [hcN] at hcs
  obtain ⟨cl⟩ := cs
  match xs, hlen with
  | [y0, y1, y2, y3, y4, y5, y6, y7, y8, y9, y10, y11, y12, y13, y14, y15, y16, y17, y18, y19, y20, y21, y22, y23, y24], _ =>
  have q0 : DataW.trod enc Tryz.prog W base spare held n 3 ((cl.drop 0).take (Tryz.prog.cellsOf 3)) = some y0 := hf 0 _ rfl
  rw [cells_Int] at q0
  have q1 : DataW.trod enc Tryz.prog W base spare held n 3 ((cl.drop 1).take (Tryz.prog.cellsOf 3)) = some y1 := hf 1 _ rfl
  rw [cells_Int] at q1
  have q2 : DataW.trod enc Tryz.prog W base spare held n 23 ((cl.drop 2).take (Tryz.prog.cellsOf 23)) = some y2 := hf 2 _ rfl
  rw [cells_W4] at q2
  have q3 : DataW.trod enc Tryz.prog W base spare held n 23 ((cl.drop 6).take (Tryz.prog.cellsOf 23)) = some y3 := hf 3 _ rfl
  rw [cells_W4] at q3
  have q4 : DataW.trod enc Tryz.prog W base spare held n 23 ((cl.drop 10).take (Tryz.prog.cellsOf 23)) = some y4 := hf 4 _ rfl
  rw [cells_W4] at q4
  have q5 : DataW.trod enc Tryz.prog W base spare held n 24 ((cl.drop 14).take (Tryz.prog.cellsOf 24)) = some y5 := hf 5 _ rfl
  rw [cells_LW4] at q5
  have q6 : DataW.trod enc Tryz.prog W base spare held n 24 ((cl.drop 15).take (Tryz.prog.cellsOf 24)) = some y6 := hf 6 _ rfl
  rw [cells_LW4] at q6
  have q7 : DataW.trod enc Tryz.prog W base spare held n 25 ((cl.drop 16).take (Tryz.prog.cellsOf 25)) = some y7 := hf 7 _ rfl
  rw [cells_LU64] at q7
  have q8 : DataW.trod enc Tryz.prog W base spare held n 24 ((cl.drop 17).take (Tryz.prog.cellsOf 24)) = some y8 := hf 8 _ rfl
  rw [cells_LW4] at q8
  have q9 : DataW.trod enc Tryz.prog W base spare held n 24 ((cl.drop 18).take (Tryz.prog.cellsOf 24)) = some y9 := hf 9 _ rfl
  rw [cells_LW4] at q9
  have q10 : DataW.trod enc Tryz.prog W base spare held n 23 ((cl.drop 19).take (Tryz.prog.cellsOf 23)) = some y10 := hf 10 _ rfl
  rw [cells_W4] at q10
  have q11 : DataW.trod enc Tryz.prog W base spare held n 23 ((cl.drop 23).take (Tryz.prog.cellsOf 23)) = some y11 := hf 11 _ rfl
  rw [cells_W4] at q11
  have q12 : DataW.trod enc Tryz.prog W base spare held n 23 ((cl.drop 27).take (Tryz.prog.cellsOf 23)) = some y12 := hf 12 _ rfl
  rw [cells_W4] at q12
  have q13 : DataW.trod enc Tryz.prog W base spare held n 23 ((cl.drop 31).take (Tryz.prog.cellsOf 23)) = some y13 := hf 13 _ rfl
  rw [cells_W4] at q13
  have q14 : DataW.trod enc Tryz.prog W base spare held n 23 ((cl.drop 35).take (Tryz.prog.cellsOf 23)) = some y14 := hf 14 _ rfl
  rw [cells_W4] at q14
  have q15 : DataW.trod enc Tryz.prog W base spare held n 23 ((cl.drop 39).take (Tryz.prog.cellsOf 23)) = some y15 := hf 15 _ rfl
  rw [cells_W4] at q15
  have q16 : DataW.trod enc Tryz.prog W base spare held n 23 ((cl.drop 43).take (Tryz.prog.cellsOf 23)) = some y16 := hf 16 _ rfl
  rw [cells_W4] at q16
  have q17 : DataW.trod enc Tryz.prog W base spare held n 24 ((cl.drop 47).take (Tryz.prog.cellsOf 24)) = some y17 := hf 17 _ rfl
  rw [cells_LW4] at q17
  have q18 : DataW.trod enc Tryz.prog W base spare held n 24 ((cl.drop 48).take (Tryz.prog.cellsOf 24)) = some y18 := hf 18 _ rfl
  rw [cells_LW4] at q18
  have q19 : DataW.trod enc Tryz.prog W base spare held n 24 ((cl.drop 49).take (Tryz.prog.cellsOf 24)) = some y19 := hf 19 _ rfl
  rw [cells_LW4] at q19
  have q20 : DataW.trod enc Tryz.prog W base spare held n 24 ((cl.drop 50).take (Tryz.prog.cellsOf 24)) = some y20 := hf 20 _ rfl
  rw [cells_LW4] at q20
  have q21 : DataW.trod enc Tryz.prog W base spare held n 23 ((cl.drop 51).take (Tryz.prog.cellsOf 23)) = some y21 := hf 21 _ rfl
  rw [cells_W4] at q21
  have q22 : DataW.trod enc Tryz.prog W base spare held n 23 ((cl.drop 55).take (Tryz.prog.cellsOf 23)) = some y22 := hf 22 _ rfl
  rw [cells_W4] at q22
  have q23 : DataW.trod enc Tryz.prog W base spare held n 23 ((cl.drop 59).take (Tryz.prog.cellsOf 23)) = some y23 := hf 23 _ rfl
  rw [cells_W4] at q23
  have q24 : DataW.trod enc Tryz.prog W base spare held n 23 ((cl.drop 63).take (Tryz.prog.cellsOf 23)) = some y24 := hf 24 _ rfl
  rw [cells_W4] at q24
  match cl, hcs with
  | c0 :: c1 :: c2 :: c3 :: c4 :: c5 :: c6 :: c7 :: c8 :: c9 :: c10 :: c11 :: c12 :: c13 :: c14 :: c15 :: c16 :: c17 :: c18 :: c19 :: c20 :: c21 :: c22 :: c23 :: c24 :: c25 :: c26 :: c27 :: c28 :: c29 :: c30 :: c31 :: c32 :: c33 :: c34 :: c35 :: c36 :: c37 :: c38 :: c39 :: c40 :: c41 :: c42 :: c43 :: c44 :: c45 :: c46 :: c47 :: c48 :: c49 :: c50 :: c51 :: c52 :: c53 :: c54 :: c55 :: c56 :: c57 :: c58 :: c59 :: c60 :: c61 :: c62 :: c63 :: c64 :: c65 :: c66 :: [], _ =>
  replace q0 : DataW.trod enc Tryz.prog W base spare held n 3 [c0] = some y0 := q0
  replace q1 : DataW.trod enc Tryz.prog W base spare held n 3 [c1] = some y1 := q1
  replace q2 : DataW.trod enc Tryz.prog W base spare held n 23 [c2, c3, c4, c5] = some y2 := q2
  replace q3 : DataW.trod enc Tryz.prog W base spare held n 23 [c6, c7, c8, c9] = some y3 := q3
  replace q4 : DataW.trod enc Tryz.prog W base spare held n 23 [c10, c11, c12, c13] = some y4 := q4
  replace q5 : DataW.trod enc Tryz.prog W base spare held n 24 [c14] = some y5 := q5
  replace q6 : DataW.trod enc Tryz.prog W base spare held n 24 [c15] = some y6 := q6
  replace q7 : DataW.trod enc Tryz.prog W base spare held n 25 [c16] = some y7 := q7
  replace q8 : DataW.trod enc Tryz.prog W base spare held n 24 [c17] = some y8 := q8
  replace q9 : DataW.trod enc Tryz.prog W base spare held n 24 [c18] = some y9 := q9
  replace q10 : DataW.trod enc Tryz.prog W base spare held n 23 [c19, c20, c21, c22] = some y10 := q10
  replace q11 : DataW.trod enc Tryz.prog W base spare held n 23 [c23, c24, c25, c26] = some y11 := q11
  replace q12 : DataW.trod enc Tryz.prog W base spare held n 23 [c27, c28, c29, c30] = some y12 := q12
  replace q13 : DataW.trod enc Tryz.prog W base spare held n 23 [c31, c32, c33, c34] = some y13 := q13
  replace q14 : DataW.trod enc Tryz.prog W base spare held n 23 [c35, c36, c37, c38] = some y14 := q14
  replace q15 : DataW.trod enc Tryz.prog W base spare held n 23 [c39, c40, c41, c42] = some y15 := q15
  replace q16 : DataW.trod enc Tryz.prog W base spare held n 23 [c43, c44, c45, c46] = some y16 := q16
  replace q17 : DataW.trod enc Tryz.prog W base spare held n 24 [c47] = some y17 := q17
  replace q18 : DataW.trod enc Tryz.prog W base spare held n 24 [c48] = some y18 := q18
  replace q19 : DataW.trod enc Tryz.prog W base spare held n 24 [c49] = some y19 := q19
  replace q20 : DataW.trod enc Tryz.prog W base spare held n 24 [c50] = some y20 := q20
  replace q21 : DataW.trod enc Tryz.prog W base spare held n 23 [c51, c52, c53, c54] = some y21 := q21
  replace q22 : DataW.trod enc Tryz.prog W base spare held n 23 [c55, c56, c57, c58] = some y22 := q22
  replace q23 : DataW.trod enc Tryz.prog W base spare held n 23 [c59, c60, c61, c62] = some y23 := q23
  replace q24 : DataW.trod enc Tryz.prog W base spare held n 23 [c63, c64, c65, c66] = some y24 := q24
  obtain ⟨eb, z0, _, _⟩ := DataW.trod_int Tryz.underlying3 q0
  obtain rfl : c0 = _ := by simpa using z0
  obtain ⟨ec, z1, _, _⟩ := DataW.trod_int Tryz.underlying3 q1
  obtain rfl : c1 = _ := by simpa using z1
  obtain ⟨eB, z2, o2⟩ := elem_W4 q2
  obtain ⟨eBl, z3, o3⟩ := elem_W4 q3
  obtain ⟨eQ, z4, o4⟩ := elem_W4 q4
  obtain ⟨u5, k5, s5⟩ := hcell 14 c14 rfl
  obtain rfl : 24 = u5 := by simpa using k5
  obtain ⟨g5, eG, eg5, h5⟩ := in_LW4 (fun a l c e => spot_of s5 Tryz.underlying24 a l c (by simpa using e)) q5
  obtain rfl : c14 = g5 := by simpa using eg5
  obtain ⟨u6, k6, s6⟩ := hcell 15 c15 rfl
  obtain rfl : 24 = u6 := by simpa using k6
  obtain ⟨g6, eH, eg6, h6⟩ := in_LW4 (fun a l c e => spot_of s6 Tryz.underlying24 a l c (by simpa using e)) q6
  obtain rfl : c15 = g6 := by simpa using eg6
  obtain ⟨u7, k7, s7⟩ := hcell 16 c16 rfl
  obtain rfl : 25 = u7 := by simpa using k7
  obtain ⟨g7, eV, eg7, h7⟩ := in_LU64 (fun a l c e => spot_of s7 Tryz.underlying25 a l c (by simpa using e)) q7
  obtain rfl : c16 = g7 := by simpa using eg7
  obtain ⟨u8, k8, s8⟩ := hcell 17 c17 rfl
  obtain rfl : 24 = u8 := by simpa using k8
  obtain ⟨g8, eBs, eg8, h8⟩ := in_LW4 (fun a l c e => spot_of s8 Tryz.underlying24 a l c (by simpa using e)) q8
  obtain rfl : c17 = g8 := by simpa using eg8
  obtain ⟨u9, k9, s9⟩ := hcell 18 c18 rfl
  obtain rfl : 24 = u9 := by simpa using k9
  obtain ⟨g9, eC, eg9, h9⟩ := in_LW4 (fun a l c e => spot_of s9 Tryz.underlying24 a l c (by simpa using e)) q9
  obtain rfl : c18 = g9 := by simpa using eg9
  obtain ⟨ey, z10, o10⟩ := elem_W4 q10
  obtain ⟨ez, z11, o11⟩ := elem_W4 q11
  obtain ⟨ex, z12, o12⟩ := elem_W4 q12
  obtain ⟨eal, z13, o13⟩ := elem_W4 q13
  obtain ⟨erho, z14, o14⟩ := elem_W4 q14
  obtain ⟨et1, z15, o15⟩ := elem_W4 q15
  obtain ⟨et2, z16, o16⟩ := elem_W4 q16
  obtain ⟨u17, k17, s17⟩ := hcell 47 c47 rfl
  obtain rfl : 24 = u17 := by simpa using k17
  obtain ⟨g17, eSL, eg17, h17⟩ := in_LW4 (fun a l c e => spot_of s17 Tryz.underlying24 a l c (by simpa using e)) q17
  obtain rfl : c47 = g17 := by simpa using eg17
  obtain ⟨u18, k18, s18⟩ := hcell 48 c48 rfl
  obtain rfl : 24 = u18 := by simpa using k18
  obtain ⟨g18, eSR, eg18, h18⟩ := in_LW4 (fun a l c e => spot_of s18 Tryz.underlying24 a l c (by simpa using e)) q18
  obtain rfl : c48 = g18 := by simpa using eg18
  obtain ⟨u19, k19, s19⟩ := hcell 49 c49 rfl
  obtain rfl : 24 = u19 := by simpa using k19
  obtain ⟨g19, eL, eg19, h19⟩ := in_LW4 (fun a l c e => spot_of s19 Tryz.underlying24 a l c (by simpa using e)) q19
  obtain rfl : c49 = g19 := by simpa using eg19
  obtain ⟨u20, k20, s20⟩ := hcell 50 c50 rfl
  obtain rfl : 24 = u20 := by simpa using k20
  obtain ⟨g20, eR, eg20, h20⟩ := in_LW4 (fun a l c e => spot_of s20 Tryz.underlying24 a l c (by simpa using e)) q20
  obtain rfl : c50 = g20 := by simpa using eg20
  obtain ⟨etaux, z21, o21⟩ := elem_W4 q21
  obtain ⟨emu, z22, o22⟩ := elem_W4 q22
  obtain ⟨eS, z23, o23⟩ := elem_W4 q23
  obtain ⟨eT2, z24, o24⟩ := elem_W4 q24
  refine ⟨⟨eb, ec, eB, eBl, eQ, eG, eH, eV, eBs, eC, ey, ez, ex, eal, erho, et1, et2, eSL, eSR, eL, eR, etaux, emu, eS, eT2⟩, c14, c15, c16, c17, c18, c47, c48, c49, c50, ?_, ⟨o2, o3, o4, o10, o11, o12, o13, o14, o15, o16, o21, o22, o23, o24⟩, ⟨h5, h6, h7, h8, h9, h17, h18, h19, h20⟩⟩
  unfold csL
  dsimp only
  rw [← z2, ← z3, ← z4, ← z10, ← z11, ← z12, ← z13, ← z14, ← z15, ← z16, ← z21, ← z22, ← z23, ← z24]
  rfl
#print axioms in_Case
end Go.Proofs.YtcnmnmhmmgjblaaGreatDoor
