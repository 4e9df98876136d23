/-
  The matched tape.
-/
import Derived.Test.YtcnmnmhmmgjblaaGreatDoorDJk
namespace Go.Vc
open Go Go.Proofs Go.RowKit
theorem PrAt.stp0 {w w' : World} {b c : Nat} {P : Pr} {d : Pq} {Lc Rc Rd : List F} {Ld : List Nat} (h : PrAt w b c P d Lc Ld Rc Rd) (hs : Stp [] w w') : PrAt w' b c P d Lc Ld Rc Rd := by
  obtain ⟨g, k, a1, a2, a3, a4, a5⟩ := h.set
  exact ⟨h.pos, h.cb, by rw [hs.past b (Array.getElem?_eq_some_iff.1 h.row).1 List.not_mem_nil]; exact h.row, h.cm, h.okp, h.okt, ⟨g, k, by rw [hs.past c (Array.getElem?_eq_some_iff.1 a1).1 List.not_mem_nil]; exact a1, a2.stp0 hs, a3.stp0 hs, a4, a5⟩, h.sl.stp0 hs, h.sr.stp0 hs, h.vs.stp0 hs, h.bits.stp0 hs, h.lc.stp0 hs, h.ld.stp0 hs, h.rc.stp0 hs, h.rd.stp0 hs, h.sep⟩
/-- What Match is asked. -/
structure Mt where
  d : Pq
  y : Nat
  z : Nat
  x : Nat
namespace Mt
variable (q : Mt)
def md : Md := ⟨q.d, rF q.y, rF q.z⟩
def l (i : Nat) : F := q.md.l0 i + rF q.x * q.md.sl i
def r (i : Nat) : F := q.md.r0 i + rF q.x * q.md.r1 i
def tx : F := rF q.d.t.2.2.1 * rF q.x + rF q.d.t.2.2.2.1 * rF q.x * rF q.x + sumF' (fun j => fp (rF q.z) (2 + j) * rF (bAt q.d.vs j)) q.d.n
def mu : F := rF q.d.t.1 + rF q.d.t.2.1 * rF q.x
def out : StN := (q.tx.val, q.mu.val, q.d.Sg.val, q.md.T2.val, (mapN q.l q.d.N).map (fun f : F => f.val), (mapN q.r q.d.N).map (fun f : F => f.val))
end Mt
def cMt : Cods Mt := ⟨fun w l q => (Cods.cons cSetN (Cods.cons cPn (Cods.cons cLO (Cods.cons cSj (Cods.cons cSj (Cods.cons cSj (Cods.cons cTpN Cods.nil))))))).rd w l (q.d.p, (q.d.m, q.d.n), q.d.vs, q.y, q.z, q.x, q.d.t, ()), fun w l a b h k => by
  have := Cods.inj _ _ _ _ _ h k
  simp only [Prod.mk.injEq, and_true] at this
  obtain ⟨h1, ⟨h2, h3⟩, h4, h5, h6, h7, h8⟩ := this
  obtain ⟨⟨⟩, _, _, _⟩ := a; obtain ⟨⟨⟩, _, _, _⟩ := b
  simp only at h1 h2 h3 h4 h5 h6 h7 h8
  subst h1 h2 h3 h4 h5 h6 h7 h8
  rfl⟩
def ann33 : Ann := ⟨[], [], 70, [(37, false), (38, true), (39, true)], [10, 11, 12], none, [], []⟩
def kb33_0 (b0 b1 b2 b3 b4 b5 b6 : Nat) (x10 x11 x12 x13 x14 x15 x16 x17 x18 x19 x20 x21 x22 x23 x1 x2 x24 x25 x26 x27 : Value) : List KB := [⟨b0, true, 42, #[x10, x11, x12, x13, x14, x15, x16, x17, x18, x19, x20, x21, x22, x23]⟩, ⟨b1, true, 45, #[x1, x2]⟩, ⟨b2, true, 29, (aggArr x24)⟩, ⟨b3, true, 29, (aggArr x25)⟩, ⟨b4, true, 29, (aggArr x26)⟩, ⟨b5, true, 36, (aggArr x27)⟩, ⟨b6, true, 33, #[(.slice none 0 0), (.slice none 0 0), (U 0), (U 0), (U 0), (U 0), (U 0), (U 0), (U 0), (U 0), (U 0), (U 0), (U 0), (U 0), (U 0), (U 0), (U 0), (U 0)]⟩]
def kb33_1 (b0 b1 b2 b3 b4 b5 b6 b7 : Nat) (x10 x11 x12 x13 x14 x15 x16 x17 x18 x19 x20 x21 x22 x23 x1 x2 x24 x25 x26 x27 x33 : Value) : List KB := [⟨b0, true, 42, #[x10, x11, x12, x13, x14, x15, x16, x17, x18, x19, x20, x21, x22, x23]⟩, ⟨b1, true, 45, #[x1, x2]⟩, ⟨b2, true, 29, (aggArr x24)⟩, ⟨b3, true, 29, (aggArr x25)⟩, ⟨b4, true, 29, (aggArr x26)⟩, ⟨b5, true, 36, (aggArr x27)⟩, ⟨b6, true, 33, #[(.slice none 0 0), (.slice none 0 0), (U 0), (U 0), (U 0), (U 0), (U 0), (U 0), (U 0), (U 0), (U 0), (U 0), (U 0), (U 0), (U 0), (U 0), (U 0), (U 0)]⟩, ⟨b7, true, 83, (aggArr x33)⟩]
theorem vc33 (X : Ctx) (β : Nat → Nat) (x0 x1 x2 x3 x4 x5 x6 x7 : Value) : (run Tryz.prog ann33 33 [.x (.v 0), .l [.v 1, .v 2], .x (.v 3), .x (.v 4), .x (.v 5), .x (.v 6), .x (.v 7)] [] [] 9).den X (env0 [x0, x1, x2, x3, x4, x5, x6, x7] X.w0) 9 β 0 (fun _ _ _ => False) = (
 Ask (rAgg 14 x0) fun x9 =>
 Ask (rSel (aggArr x9) 0 1 false) fun x10 =>
 Ask (rSel (aggArr x9) 1 1 false) fun x11 =>
 Ask (rSel (aggArr x9) 2 1 false) fun x12 =>
 Ask (rSel (aggArr x9) 3 1 false) fun x13 =>
 Ask (rSel (aggArr x9) 4 1 false) fun x14 =>
 Ask (rSel (aggArr x9) 5 1 false) fun x15 =>
 Ask (rSel (aggArr x9) 6 1 false) fun x16 =>
 Ask (rSel (aggArr x9) 7 1 false) fun x17 =>
 Ask (rSel (aggArr x9) 8 1 false) fun x18 =>
 Ask (rSel (aggArr x9) 9 1 false) fun x19 =>
 Ask (rSel (aggArr x9) 10 1 false) fun x20 =>
 Ask (rSel (aggArr x9) 11 1 false) fun x21 =>
 Ask (rSel (aggArr x9) 12 1 false) fun x22 =>
 Ask (rSel (aggArr x9) 13 1 false) fun x23 =>
 AskNew X.w0 fun b0 =>
 AskNew X.w0 fun b1 =>
 Ask (rAgg 4 x4) fun x24 =>
 AskNew X.w0 fun b2 =>
 Ask (rAgg 4 x5) fun x25 =>
 AskNew X.w0 fun b3 =>
 Ask (rAgg 4 x6) fun x26 =>
 AskNew X.w0 fun b4 =>
 Ask (rAgg 18 x7) fun x27 =>
 AskNew X.w0 fun b5 =>
 AskNew X.w0 fun b6 =>
 AskW X X.w0 [] (kb33_0 b0 b1 b2 b3 b4 b5 b6 x10 x11 x12 x13 x14 x15 x16 x17 x18 x19 x20 x21 x22 x23 x1 x2 x24 x25 x26 x27) false 37 [(.agg #[x10, x11, x12, x13, x14, x15, x16, x17, x18, x19, x20, x21, x22, x23]), (.agg #[x1, x2]), x3, x27] fun x28 w28 =>
 Ask (rExt X.P x28 0) fun x29 =>
 Ask (rExt X.P x28 1) fun _ =>
 Ask (rExt X.P x28 2) fun x31 =>
 Ask (rExt X.P x28 3) fun x32 =>
 AskNew w28 fun b7 =>
 Ask (rAgg 42 x31) fun x33 =>
 Ask (rBin X.P .neq 37 false true x32 (J 0)) fun x34 =>
 (∃ t, x34 = .bool t) ∧ (x34 = .bool true →
 Ret X w28 [b6, b7] [] (.tuple #[(.agg #[(.slice none 0 0), (.slice none 0 0), (U 0), (U 0), (U 0), (U 0), (U 0), (U 0), (U 0), (U 0), (U 0), (U 0), (U 0), (U 0), (U 0), (U 0), (U 0), (U 0)]), x32])) ∧ (x34 = .bool false →
 AskW X w28 [b7] (kb33_1 b0 b1 b2 b3 b4 b5 b6 b7 x10 x11 x12 x13 x14 x15 x16 x17 x18 x19 x20 x21 x22 x23 x1 x2 x24 x25 x26 x27 x33) true 38 [x29, x24, x25] fun x35 w35 =>
 Ask (rExt X.P x35 0) fun _ =>
 Ask (rExt X.P x35 1) fun x37 =>
 Ask (rBin X.P .neq 37 false true x37 (J 0)) fun x38 =>
 (∃ t, x38 = .bool t) ∧ (x38 = .bool true →
 Ret X w35 [b6] [] (.tuple #[(.agg #[(.slice none 0 0), (.slice none 0 0), (U 0), (U 0), (U 0), (U 0), (U 0), (U 0), (U 0), (U 0), (U 0), (U 0), (U 0), (U 0), (U 0), (U 0), (U 0), (U 0)]), x37])) ∧ (x38 = .bool false →
 AskW X w35 [] (kb33_1 b0 b1 b2 b3 b4 b5 b6 b7 x10 x11 x12 x13 x14 x15 x16 x17 x18 x19 x20 x21 x22 x23 x1 x2 x24 x25 x26 x27 x33) true 39 [x29, x26] fun x39 w39 =>
 Ask (rExt X.P x39 0) fun x40 =>
 Ask (rExt X.P x39 1) fun x41 =>
 AskNew w39 fun b8 =>
 Ask (rAgg 42 x40) fun x42 =>
 Ask (rBin X.P .neq 37 false true x41 (J 0)) fun x43 =>
 (∃ t, x43 = .bool t) ∧ (x43 = .bool true →
 Ret X w39 [b6, b8] [] (.tuple #[(.agg #[(.slice none 0 0), (.slice none 0 0), (U 0), (U 0), (U 0), (U 0), (U 0), (U 0), (U 0), (U 0), (U 0), (U 0), (U 0), (U 0), (U 0), (U 0), (U 0), (U 0)]), x41])) ∧ (x43 = .bool false →
 Ask (rSel (aggArr x42) 40 1 false) fun x44 =>
 Ask (rSel (aggArr x42) 41 1 false) fun x45 =>
 Ask (rSel (aggArr x42) 28 4 true) fun x46 =>
 Ask (rSel (aggArr x42) 32 4 true) fun x47 =>
 Ask (rSel (aggArr x42) 4 4 true) fun x48 =>
 Ask (rSel (aggArr x42) 12 4 true) fun x49 =>
 Ask (rPlain x44) fun x50 =>
 Ask (rPlain x45) fun x51 =>
 Ask (rAgg 4 x46) fun x52 =>
 Ask (rSel (aggArr x52) 0 1 false) fun x53 =>
 Ask (rSel (aggArr x52) 1 1 false) fun x54 =>
 Ask (rSel (aggArr x52) 2 1 false) fun x55 =>
 Ask (rSel (aggArr x52) 3 1 false) fun x56 =>
 Ask (rAgg 4 x47) fun x57 =>
 Ask (rSel (aggArr x57) 0 1 false) fun x58 =>
 Ask (rSel (aggArr x57) 1 1 false) fun x59 =>
 Ask (rSel (aggArr x57) 2 1 false) fun x60 =>
 Ask (rSel (aggArr x57) 3 1 false) fun x61 =>
 Ask (rAgg 4 x48) fun x62 =>
 Ask (rSel (aggArr x62) 0 1 false) fun x63 =>
 Ask (rSel (aggArr x62) 1 1 false) fun x64 =>
 Ask (rSel (aggArr x62) 2 1 false) fun x65 =>
 Ask (rSel (aggArr x62) 3 1 false) fun x66 =>
 Ask (rAgg 4 x49) fun x67 =>
 Ask (rSel (aggArr x67) 0 1 false) fun x68 =>
 Ask (rSel (aggArr x67) 1 1 false) fun x69 =>
 Ask (rSel (aggArr x67) 2 1 false) fun x70 =>
 Ask (rSel (aggArr x67) 3 1 false) fun x71 =>
 Ask (rPlain x50) fun x72 =>
 Ask (rPlain x51) fun x73 =>
 Ask (rPlain x53) fun x74 =>
 Ask (rPlain x54) fun x75 =>
 Ask (rPlain x55) fun x76 =>
 Ask (rPlain x56) fun x77 =>
 Ask (rPlain x58) fun x78 =>
 Ask (rPlain x59) fun x79 =>
 Ask (rPlain x60) fun x80 =>
 Ask (rPlain x61) fun x81 =>
 Ask (rPlain x63) fun x82 =>
 Ask (rPlain x64) fun x83 =>
 Ask (rPlain x65) fun x84 =>
 Ask (rPlain x66) fun x85 =>
 Ask (rPlain x68) fun x86 =>
 Ask (rPlain x69) fun x87 =>
 Ask (rPlain x70) fun x88 =>
 Ask (rPlain x71) fun x89 =>
 Ret X w39 [b6, b8] [] (.tuple #[(.agg #[x72, x73, x74, x75, x76, x77, x78, x79, x80, x81, x82, x83, x84, x85, x86, x87, x88, x89]), (J 0)]))))) := by kernel_rfl
def cMch : Contract := fnW cMt (fun q _ => q.d.Ok ∧ rF q.y ≠ 0 ∧ rF q.z ≠ 0 ∧ rF q.x ≠ 0) (fun q w v w' => ∃ L R, v = .tuple #[.agg (stNL q.out L R).toArray, J 0] ∧ w'.ownsRow w.heap.size 29 4 L q.d.N ((mapN q.l q.d.N).flatMap encF) ∧ w'.ownsRow w.heap.size 29 4 R q.d.N ((mapN q.r q.d.N).flatMap encF))
def Tmt : Table := ((T0.add 37 cBgn).add 38 cMid).add 39 cFin
theorem keepTmt : AllKeep Tryz.prog GT Tmt := ((keepT0.add keepsBgn).add keepsMid).add keepsFin
set_option maxHeartbeats 2000000 in
theorem keepsMch : Keeps1 Tryz.prog GT 33 cMch := by
  refine keepsW (T := Tmt) (A := ann33) hMix keepTmt hGT (calls_of (by kernel_rfl)) (callsW_of (by kernel_rfl)) fun args q w0 hrd hpre hgt => ?_
  obtain ⟨_, _, rfl, ⟨okp, g, h, rfl, hg, hh⟩, _, _, rfl, rfl, v, _, rfl, hv, _, _, rfl, ⟨rfl, hy⟩, _, _, rfl, ⟨rfl, hz⟩, _, _, rfl, ⟨rfl, hx⟩, _, _, rfl, ⟨okt, sl, sr, rfl, hsl, hsr⟩, rfl⟩ := hrd
  obtain ⟨ok, hy0, hz0, hx0⟩ := hpre
  dsimp only at okp hg hh hv okt hsl hsr hy hz hx
  replace hg : LsS w0 g q.d.p.2.2.2.1 := hg
  replace hh : LsS w0 h q.d.p.2.2.2.2 := hh
  replace hv : LsO w0 v q.d.vs := hv
  replace hsl : LsS w0 sl q.d.t.2.2.2.2.1 := hsl
  replace hsr : LsS w0 sr q.d.t.2.2.2.2.2 := hsr
  refine ⟨[.x (.v 0), .l [.v 1, .v 2], .x (.v 3), .x (.v 4), .x (.v 5), .x (.v 6), .x (.v 7)], [], [], 9, env0 [.agg (setL q.d.p g h).toArray, J q.d.m, J q.d.n, v, S q.y, S q.z, S q.x, .agg (tpN q.d.t sl sr).toArray] w0, fun b => b, 0, rfl, rfl, fun X hX => mem_none hX rfl, fun X hP hS hw hX hR => ?_⟩
  subst hw; try dsimp only at hR
  rw [vc33 X]
  refine a_agg (setL_len _ _ _) (setL_one (slAt_one hg.1) (slAt_one hh.1)) ?_
  iterate 12 refine a_sel1 rfl ?_
  refine a_sel1 (v := g) rfl ?_
  refine a_sel1 (v := h) rfl ?_
  intro b0 hb0 b1 hb1
  rw [ask_aggS]; intro b2 hb2
  rw [ask_aggS]; intro b3 hb3
  rw [ask_aggS]; intro b4 hb4
  refine a_agg (tpN_len _ _ _) (tpN_one (slAt_one hsl.1) (slAt_one hsr.1)) ?_
  intro b5 hb5 b6 hb6
  refine call_W hX hS (T := Tmt) (f := 37) rfl q.d (fun w hw => ⟨⟨_, _, rfl, ⟨okp, g, h, rfl, hg.stp0 hw.stp, hh.stp0 hw.stp⟩, _, _, rfl, rfl, _, _, rfl, hv.stp0 hw.stp, _, _, rfl, ⟨okt, sl, sr, rfl, hsl.stp0 hw.stp, hsr.stp0 hw.stp⟩, rfl⟩, ok⟩) fun e u1 w1 h1 k1 s1 su1 hq => ?_
  obtain ⟨b, c, vv, P, rfl, hb, hc, hA, p1, p2, p3, p4, p5, p6, p7, p8, p9, p10, p11, _, _⟩ := hq
  rw [ask_ext (v := Pt b) rfl, ask_ext (v := vv) rfl, ask_ext (v := .agg (vwL q.d.A q.d.Sg 0 0 0 0 0 0 0 0 nl nl).toArray) rfl, ask_ext (v := J 0) rfl]
  intro b7 hb7
  refine a_agg (vwL_len _ _ _ _ _ _ _ _ _ _ _ _) (vwL_one rfl rfl) ?_
  rw [ask_neqN]
  refine a_if (fun h => by cases h) fun _ => ?_
  have lo : ∀ i ∈ [b0, b1, b2, b3, b4, b5, b6], i < u1.heap.size := fun i hi => h1.low (by simpa [kb33_0] using hi)
  have zu := h1.sz0
  have hbw : b < w1.heap.size := (Array.getElem?_eq_some_iff.1 hA.row).1
  have hmine : X.mine b := (hX b).2 (by omega)
  have nbk : b ∉ [b0, b1, b2, b3, b4, b5, b6, b7] := by
    have := lo b0 (by simp); have := lo b1 (by simp); have := lo b2 (by simp); have := lo b3 (by simp); have := lo b4 (by simp); have := lo b5 (by simp); have := lo b6 (by simp)
    simp only [List.mem_cons, List.not_mem_nil, or_false]
    omega
  refine call_M hX.n hS (T := Tmt) (f := 38) rfl ⟨b, c, P, q.d, [], [], [], [], [q.y, q.z]⟩ (fun w hw => ⟨⟨rfl, by simp [hy, hz], hA.stp0 (hw.stp.drop (by simpa using hb7))⟩, ok, p1, p2, p4, p5, q.y, q.z, rfl, hy0, hz0⟩) [b] (fun i hi => by simp [hi]) (fun i hi => by
    simp only [List.mem_singleton] at hi
    subst hi
    exact ⟨hmine, nbk⟩) fun e u2 w2 h2 k2 s2 su2 hq => ?_
  obtain ⟨P', rfl, hA', r1, r2, r3, r4, r5, r6, r7⟩ := hq q.y q.z rfl
  rw [ask_ext0, ask_ext1, ask_neqN]
  refine a_if (fun h => by cases h) fun _ => ?_
  dsimp only at hA' r2 r3 r4 r5 r6 r7
  obtain ⟨a, ea⟩ : ∃ a : PrA, a = ⟨b, c, P', q.d, mapN (Md.l0 ⟨q.d, rF q.y, rF q.z⟩) q.d.N, q.d.t.2.2.2.2.1, mapN (Md.r0 ⟨q.d, rF q.y, rF q.z⟩) q.d.N, mapN (Md.r1 ⟨q.d, rF q.y, rF q.z⟩) q.d.N, [q.x]⟩ := ⟨_, rfl⟩
  have da : a.d = q.d := by rw [ea]
  have Pa : a.P = P' := by rw [ea]
  refine call_M hX.n hS (T := Tmt) (f := 39) rfl a (fun w hw => ⟨by rw [ea]; exact ⟨rfl, by simp [hx], hA'.stp0 hw.stp⟩, by rw [ea]; exact ⟨ok, r1, mapN_len _ _, ok.sl, mapN_len _ _, mapN_len _ _, q.x, rfl, hx0⟩⟩) [b] (fun i hi => by rw [ea] at hi; simp [hi]) (fun i hi => by
    simp only [List.mem_singleton] at hi
    subst hi
    exact ⟨hmine, nbk⟩) fun e u3 w3 h3 k3 s3 su3 hq => ?_
  obtain ⟨L, R, rfl, oL, oR⟩ := hq q.x (by rw [ea])
  rw [da] at oL oR
  rw [da, Pa]
  have eL : mapN (a.Lf q.x) q.d.N = mapN q.l q.d.N := mapN_congr fun i hi => by rw [PrA.Lf, ea]; show (mapN _ _).getD i 0 + _ = _; rw [mapN_get _ 0 hi]; rfl
  have eR : mapN (a.Rf q.x) q.d.N = mapN q.r q.d.N := mapN_congr fun i hi => by rw [PrA.Rf, ea]; show (mapN _ _).getD i 0 + rF q.x * (mapN _ _).getD i 0 = _; rw [mapN_get _ 0 hi, mapN_get _ 0 hi]; rfl
  have eT : a.tx q.x q.d.n = q.tx := by rw [PrA.tx, ea, Mt.tx, ← r7]
  have eM : a.mu q.x = q.mu := by rw [PrA.mu, ea, Mt.mu]
  rw [eL] at oL
  rw [eR] at oR
  rw [r3, r5, p7, eT, eM]
  have cL := own_one oL
  have cR := own_one oR
  rw [ask_ext0, ask_ext1]
  intro b8 hb8
  refine a_agg (vwL_len _ _ _ _ _ _ _ _ _ _ _ _) (vwL_one cL cR) ?_
  rw [ask_neqN]
  refine a_if (fun h => by cases h) fun _ => ?_
  refine a_sel1 (v := L) rfl ?_
  refine a_sel1 (v := R) rfl ?_
  refine a_selL (ds := encF q.tx) rfl (by rw [vwL_len]; omega) ?_
  refine a_selL (ds := encF q.mu) rfl (by rw [vwL_len]; omega) ?_
  refine a_selL (ds := encF q.d.Sg) rfl (by rw [vwL_len]; omega) ?_
  refine a_selL (ds := encF q.md.T2) rfl (by rw [vwL_len]; omega) ?_
  refine a_plain cL (a_plain cR ?_)
  iterate 4
    refine a_agg (cs := encF _) rfl (one_encF _) ?_
    iterate 4 refine a_sel1 rfl ?_
  refine a_plain cL (a_plain cR ?_)
  iterate 16 refine a_plain rfl ?_
  have z3 := k3.sz0
  have off : ∀ {v : Value} {xs : List Value} {n e s : Nat}, w3.ownsRow u3.heap.size e s v n xs → ∀ i, v.ownBlock = some i → i ∉ [b6, b8] := fun ho i hi hm => by
    have h1' := ho.lt i hi
    have h2' := lo b6 (by simp)
    have h3' := s1.size
    have h4' := su2.size
    have h5' := h3.size
    simp only [List.mem_cons, List.not_mem_nil, or_false] at hm
    omega
  have zu3 := h3.sz0
  exact hR _ _ _ _ fun wf hwf => ⟨L, R, rfl, own_mono (own_stp oL hwf.stp (off oL)) zu3, own_mono (own_stp oR hwf.stp (off oR)) zu3⟩
#print axioms keepsMch
end Go.Vc
