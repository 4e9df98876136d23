/-
  The law's case: tapes, openings.
-/
import Derived.Test.YtcnmnmhmmgjblaaGreatDoorDIp
namespace Go.Vc
open Go Go.Proofs Go.RowKit
def stN (d : Cs) : StN := (d.taux, d.mu, d.S, d.T2, cut d.L, cut d.R)
def ann7 : Ann := ⟨[], [24], 70, [(41, false)], [], none, [], []⟩
def kb7_0 (b0 b1 : Nat) (x2 : Value) : List KB := [⟨b0, true, 27, (aggArr x2)⟩, ⟨b1, true, 33, #[(.slice none 0 0), (.slice none 0 0), (U 0), (U 0), (U 0), (U 0), (U 0), (U 0), (U 0), (U 0), (U 0), (U 0), (U 0), (U 0), (U 0), (U 0), (U 0), (U 0)]⟩]
theorem vc7 (X : Ctx) (β : Nat → Nat) (x0 : Value) : (run Tryz.prog ann7 7 [.x (.v 0)] [] [] 2).den X (env0 [x0] X.w0) 2 β 0 (fun _ _ _ => False) = (
 Ask (rAgg 67 x0) fun x2 =>
 AskNew X.w0 fun b0 =>
 AskNew X.w0 fun b1 =>
 Ask (rSel (aggArr x2) 49 1 false) fun x3 =>
 AskW X X.w0 [] (kb7_0 b0 b1 x2) false 41 [x3] fun x4 w4 =>
 Ask (rSel (aggArr x2) 50 1 false) fun x5 =>
 AskW X w4 [] (kb7_0 b0 b1 x2) false 41 [x5] fun x6 w6 =>
 Ask (rSel (aggArr x2) 51 4 true) fun x7 =>
 Ask (rSel (aggArr x2) 55 4 true) fun x8 =>
 Ask (rSel (aggArr x2) 59 4 true) fun x9 =>
 AskF X 24 [x9] fun x10 =>
 Ask (rSel (aggArr x2) 63 4 true) fun x11 =>
 AskF X 24 [x11] fun x12 =>
 Ask (rPlain x4) fun x13 =>
 Ask (rPlain x6) fun x14 =>
 Ask (rAgg 4 x7) fun x15 =>
 Ask (rSel (aggArr x15) 0 1 false) fun x16 =>
 Ask (rSel (aggArr x15) 1 1 false) fun x17 =>
 Ask (rSel (aggArr x15) 2 1 false) fun x18 =>
 Ask (rSel (aggArr x15) 3 1 false) fun x19 =>
 Ask (rAgg 4 x8) fun x20 =>
 Ask (rSel (aggArr x20) 0 1 false) fun x21 =>
 Ask (rSel (aggArr x20) 1 1 false) fun x22 =>
 Ask (rSel (aggArr x20) 2 1 false) fun x23 =>
 Ask (rSel (aggArr x20) 3 1 false) fun x24 =>
 Ask (rAgg 4 x10) fun x25 =>
 Ask (rSel (aggArr x25) 0 1 false) fun x26 =>
 Ask (rSel (aggArr x25) 1 1 false) fun x27 =>
 Ask (rSel (aggArr x25) 2 1 false) fun x28 =>
 Ask (rSel (aggArr x25) 3 1 false) fun x29 =>
 Ask (rAgg 4 x12) fun x30 =>
 Ask (rSel (aggArr x30) 0 1 false) fun x31 =>
 Ask (rSel (aggArr x30) 1 1 false) fun x32 =>
 Ask (rSel (aggArr x30) 2 1 false) fun x33 =>
 Ask (rSel (aggArr x30) 3 1 false) fun x34 =>
 Ask (rPlain x13) fun x35 =>
 Ask (rPlain x14) fun x36 =>
 Ask (rPlain x16) fun x37 =>
 Ask (rPlain x17) fun x38 =>
 Ask (rPlain x18) fun x39 =>
 Ask (rPlain x19) fun x40 =>
 Ask (rPlain x21) fun x41 =>
 Ask (rPlain x22) fun x42 =>
 Ask (rPlain x23) fun x43 =>
 Ask (rPlain x24) fun x44 =>
 Ask (rPlain x26) fun x45 =>
 Ask (rPlain x27) fun x46 =>
 Ask (rPlain x28) fun x47 =>
 Ask (rPlain x29) fun x48 =>
 Ask (rPlain x31) fun x49 =>
 Ask (rPlain x32) fun x50 =>
 Ask (rPlain x33) fun x51 =>
 Ask (rPlain x34) fun x52 =>
 Ret X w6 [b1] [] (.agg #[x35, x36, x37, x38, x39, x40, x41, x42, x43, x44, x45, x46, x47, x48, x49, x50, x51, x52])) := by kernel_rfl
def cTa : Contract := fnW cCs (fun _ _ => True) (fun d w v w' => (∃ l r, v = .agg (stNL (stN d) l r).toArray ∧ MkAt 78 w' l (cut d.L) ∧ MkAt 78 w' r (cut d.R) ∧ ∀ x ∈ [l, r], ∃ g, x.ownBlock = some g ∧ w.heap.size ≤ g))
theorem keepsTa : Keeps1 Tryz.prog GT 7 cTa := by
  refine keepsW (T := Tca) (A := ann7) hMix keepTca hGT (calls_of (by kernel_rfl)) (callsW_of (by kernel_rfl)) fun args d w0 hrd hpre hg => ?_
  obtain ⟨g, h, v, bl, c, sl, sr, l, r, rfl, ok, at0⟩ := hrd
  refine ⟨[.x (.v 0)], [], [], 2, env0 [.agg (csL d g h v bl c sl sr l r).toArray] w0, fun b => b, 0, rfl, rfl, fun X hX => mem_none hX rfl, fun X hP hS hw hX hR => ?_⟩
  subst hw; try dsimp only at hR
  rw [vc7 X]
  refine a_agg (csL_len _ _ _ _ _ _ _ _ _ _) at0.one ?_
  intro b0 hb0 b1 hb1
  refine a_sel1 (v := l) (by kernel_rfl) ?_
  refine call_W hX hS (T := Tca) (f := 41) rfl (d.L, ()) (fun w hw => ⟨⟨_, _, rfl, (at0.stp0 hw.stp).l, rfl⟩, trivial⟩) fun g' w1 w2 h1 k2 s2 su2 hg => ?_
  refine a_sel1 (v := r) (by kernel_rfl) ?_
  refine call_W hX hS (T := Tca) (f := 41) rfl (d.R, ()) (fun w hw => ⟨⟨_, _, rfl, (at0.stp0 (su2.trans0 hw.stp)).r, rfl⟩, trivial⟩) fun h' w3 w4 h3 k4 s4 su4 hh => ?_
  obtain ⟨hg, gg, eg, zg⟩ := hg
  obtain ⟨hh, gh, eh, zh⟩ := hh
  dsimp only at hg hh
  have lo1 : b1 < w1.heap.size := h1.low (by simp [kb7_0])
  have lo3 : b1 < w3.heap.size := h3.low (by simp [kb7_0])
  have z1 := h1.sz0
  have z3 := h3.sz0
  refine a_selL (ds := encS d.taux) (by kernel_rfl) (by rw [csL_len]; omega) ?_
  refine a_selL (ds := encS d.mu) (by kernel_rfl) (by rw [csL_len]; omega) ?_
  refine a_selL (ds := encS d.S) (by kernel_rfl) (by rw [csL_len]; omega) ?_
  refine c_Line hS ok.S ?_
  refine a_selL (ds := encS d.T2) (by kernel_rfl) (by rw [csL_len]; omega) ?_
  refine c_Line hS ok.T2 ?_
  refine a_plain (slAt_one hg.ls.1) ?_
  refine a_plain (slAt_one hh.ls.1) ?_
  refine a_fourS (n := d.taux) ?_
  refine a_fourS (n := d.mu) ?_
  iterate 2 refine a_fourS ?_
  refine a_plain (slAt_one hg.ls.1) ?_
  refine a_plain (slAt_one hh.ls.1) ?_
  iterate 16 rw [ask_uplain]
  refine hR _ _ _ _ fun w hw => ⟨g', h', rfl, ?_, ?_, ?_⟩
  · exact (hg.stp0 su4).stp hw.stp (fun q hq hm => by rw [eg] at hq; cases hq; simp at hm; omega)
  · exact hh.stp hw.stp (fun q hq hm => by rw [eh] at hq; cases hq; simp at hm; omega)
  · intro x hx
    simp only [List.mem_cons, List.not_mem_nil, or_false] at hx
    rcases hx with rfl | rfl
    · exact ⟨gg, eg, by omega⟩
    · exact ⟨gh, eh, by omega⟩
def ann16 : Ann := ⟨[], [60, 15], 70, [(63, false)], [], none, [], []⟩
def kb16_0 (b0 b1 : Nat) (x2 : Value) : List KB := [⟨b0, true, 27, (aggArr x2)⟩, ⟨b1, true, 71, #[(.slice none 0 0), (.slice none 0 0), (U 0), (U 0), (U 0), (U 0), (U 0), (U 0), (U 0), (U 0), (J 0), (J 0), (J 0), (J 0), (J 0), (J 0), (J 0), (J 0), (J 0), (J 0), (J 0), (J 0), (J 0), (J 0), (J 0), (J 0), (J 0), (J 0), (J 0), (J 0), (J 0), (U 0), (U 0), (U 0), (U 0), (.slice none 0 0), (J 0), (J 0), (J 0), (J 0), (J 0), (J 0), (J 0), (J 0), (J 0), (J 0), (J 0), (J 0), (J 0), (J 0), (J 0), (J 0), (J 0), (J 0), (J 0), (J 0), (J 0), (U 0), (U 0), (U 0), (U 0), (.slice none 0 0)]⟩]
theorem vc16 (X : Ctx) (β : Nat → Nat) (x0 : Value) : (run Tryz.prog ann16 16 [.x (.v 0)] [] [] 2).den X (env0 [x0] X.w0) 2 β 0 (fun _ _ _ => False) = (
 Ask (rAgg 67 x0) fun x2 =>
 AskNew X.w0 fun b0 =>
 AskNew X.w0 fun b1 =>
 Ask (rSel (aggArr x2) 49 1 false) fun x3 =>
 AskW X X.w0 [] (kb16_0 b0 b1 x2) false 63 [x3] fun x4 w4 =>
 Ask (rSel (aggArr x2) 50 1 false) fun x5 =>
 AskW X w4 [] (kb16_0 b0 b1 x2) false 63 [x5] fun x6 w6 =>
 Ask (rSel (aggArr x2) 51 4 true) fun x7 =>
 AskF X 15 [x7] fun x8 =>
 Ask (rSel (aggArr x2) 55 4 true) fun x9 =>
 AskF X 15 [x9] fun x10 =>
 Ask (rSel (aggArr x2) 59 4 true) fun x11 =>
 AskF X 60 [x11] fun x12 =>
 Ask (rSel (aggArr x2) 63 4 true) fun x13 =>
 AskF X 60 [x13] fun x14 =>
 Ask (rBld X.P 71 #[(0, x4), (1, x6), (2, x8), (3, x10), (4, x12), (5, x14)]) fun x15 =>
 Ask (rAgg 62 x15) fun x16 =>
 Ret X w6 [b1] [] x16) := by kernel_rfl
def stD (d : Cs) : StF := (rF d.taux, rF d.mu, rF d.S, rF d.T2, (cut d.L).map rF, (cut d.R).map rF)
def cDTa : Contract := fnW cCs (fun _ _ => True) (fun d _ v w' => cStF.rd w' v (stD d))
theorem keepsDTa : Keeps1 Tryz.prog GT 16 cDTa := by
  refine keepsW (T := Tca) (A := ann16) hMix keepTca hGT (calls_of (by kernel_rfl)) (callsW_of (by kernel_rfl)) fun args d w0 hrd hpre hg => ?_
  obtain ⟨g, h, v, bl, c, sl, sr, l, r, rfl, ok, at0⟩ := hrd
  refine ⟨[.x (.v 0)], [], [], 2, env0 [.agg (csL d g h v bl c sl sr l r).toArray] w0, fun b => b, 0, rfl, rfl, fun X hX => mem_none hX rfl, fun X hP hS hw hX hR => ?_⟩
  subst hw; try dsimp only at hR
  rw [vc16 X]
  refine a_agg (csL_len _ _ _ _ _ _ _ _ _ _) at0.one ?_
  intro b0 hb0 b1 hb1
  refine a_sel1 (v := l) (by kernel_rfl) ?_
  refine call_W hX hS (T := Tca) (f := 63) rfl (d.L, ()) (fun w hw => ⟨⟨_, _, rfl, (at0.stp0 hw.stp).l, rfl⟩, trivial⟩) fun g' w1 w2 h1 k2 s2 su2 hg => ?_
  refine a_sel1 (v := r) (by kernel_rfl) ?_
  refine call_W hX hS (T := Tca) (f := 63) rfl (d.R, ()) (fun w hw => ⟨⟨_, _, rfl, (at0.stp0 (su2.trans0 hw.stp)).r, rfl⟩, trivial⟩) fun h' w3 w4 h3 k4 s4 su4 hh => ?_
  dsimp only at hg hh
  have lo1 : b1 < w1.heap.size := h1.low (by simp [kb16_0])
  have lo3 : b1 < w3.heap.size := h3.low (by simp [kb16_0])
  refine a_selL (ds := encS d.taux) (by kernel_rfl) (by rw [csL_len]; omega) ?_
  refine c_Least hS ok.taux ?_
  refine a_selL (ds := encS d.mu) (by kernel_rfl) (by rw [csL_len]; omega) ?_
  refine c_Least hS ok.mu ?_
  refine a_selL (ds := encS d.S) (by kernel_rfl) (by rw [csL_len]; omega) ?_
  refine c_DLine hS ok.S ?_
  refine a_selL (ds := encS d.T2) (by kernel_rfl) (by rw [csL_len]; omega) ?_
  refine c_DLine hS ok.T2 ?_
  obtain ⟨ga, gc, rfl, _⟩ := slAt_form (own_slAt hg)
  obtain ⟨ha, hc, rfl, _⟩ := slAt_form (own_slAt hh)
  refine a_bld (stL (stD d) (.slice ga (cut d.L).length gc) (.slice ha (cut d.R).length hc)).toArray hP (by kernel_rfl) ?_
  refine a_agg (stL_len _ _ _) (stL_one (own_one hg) (own_one hh)) ?_
  refine hR _ _ _ _ fun w hw => ⟨_, _, rfl, ?_, ?_⟩
  · exact lsR (own_stp (own_stp0 hg su4) hw.stp (off_own hg (all1 lo1)))
  · exact lsR (own_stp hh hw.stp (off_own hh (all1 lo3)))
/-! ### openings -/
def opsN (d : Cs) : Nat := min d.V.length 64
def opP (d : Cs) (i : Nat) : Nat × Nat := (d.V.getD i 0, d.Bs.getD i 0)
def opD (d : Cs) (i : Nat) : Nat × Nat := (d.V.getD i 0, (rF (d.Bs.getD i 0)).val)
def cOps (e : Nat) (f : Cs → Nat → Nat × Nat) : Contract := fnW cCs (fun _ _ => True) (fun d w v w' => w'.ownsRow w.heap.size e 5 v (mapN (f d) (opsN d)).length ((mapN (f d) (opsN d)).flatMap encO))
theorem getD_endN {l : List Nat} {i : Nat} (h : l.length ≤ i) : l.getD i 0 = 0 := by
  rw [List.getD_eq_getElem?_getD, List.getElem?_eq_none h]; rfl
section
variable {X : Ctx} {u : World} {v : Value} {n i : Nat} {ow : List Nat} {K : Value → Prop}
theorem ld_U64 {l : List Nat} (hP : X.P = Tryz.prog) (hk : Kn X u) (h : SlAt u v n (l.flatMap encU)) (hn : l.length = n) (hi : i < l.length) (how : ∀ b, v.ownBlock = some b → b ∉ ow)
    (hK : K (U (l.getD i 0))) : Ask (rIad X.P 25 v (J i)) fun p => Ask (rLoad X u ow 22 p) K := by
  refine a_iadN hP tyU64L h (by omega) ?_
  have e : l.getD i 0 = l[i] := by rw [List.getD_eq_getElem?_getD, List.getElem?_eq_getElem hi]; rfl
  refine a_load_one hk h (by rw [hP]; exact aggU64) how (flat_at encU_len l i _ (List.getElem?_eq_getElem hi) 0 (U l[i]) rfl) ?_
  rw [← e]; exact hK
end
def ann11 : Ann := ⟨[(3, ([3, 4], []))], [], 70, [], [], none, [], []⟩
def kb11_0 (b0 : Nat) (x2 : Value) : List KB := [⟨b0, true, 27, (aggArr x2)⟩]
def kb11_1 (b0 b1 : Nat) (x2 x15 x23 x24 x25 x26 : Value) : List KB := [⟨b0, true, 27, (aggArr x2)⟩, ⟨b1, true, 116, #[x15, x23, x24, x25, x26]⟩]
def kb11_2 (b0 b1 : Nat) (x2 x15 : Value) : List KB := [⟨b0, true, 27, (aggArr x2)⟩, ⟨b1, true, 116, #[x15, (U 0), (U 0), (U 0), (U 0)]⟩]
theorem vc11 (X : Ctx) (β : Nat → Nat) (x0 : Value) : (run Tryz.prog ann11 11 [.x (.v 0)] [] [] 2).den X (env0 [x0] X.w0) 2 β 0 (fun _ _ _ => False) = (
 Ask (rAgg 67 x0) fun x2 =>
 AskNew X.w0 fun b0 =>
 ∃ (I0 : List Value → World → Prop) (μ0 : List Value → World → Nat), (∀ w, KnownV X X.w0 [] (kb11_0 b0 x2) w → I0 [(.slice none 0 0), (J 0)] w) ∧ ∀ x3 x4 w5, I0 [x3, x4] w5 →
 Ask (rSel (aggArr x2) 16 1 false) fun x6 =>
 Ask (rLen X.P 25 x6) fun x7 =>
 Ask (rBin X.P .lss 3 false false x4 x7) fun x8 =>
 AskG [(x8, true)] (rBin X.P .lss 3 false true x4 (J 64)) fun x9 =>
 Ask (rPick x8 x9 (.bool false)) fun x10 =>
 (∃ t, x10 = .bool t) ∧ (x10 = .bool true →
 Ask (rSel (aggArr x2) 16 1 false) fun x11 =>
 Ask (rIad X.P 25 x11 x4) fun x12 =>
 Ask (rLoad X w5 [] 22 x12) fun x13 =>
 Ask (rPlain x13) fun x14 =>
 AskNew w5 fun b1 =>
 Ask (rPlain x14) fun x15 =>
 Ask (rSel (aggArr x2) 17 1 false) fun x16 =>
 Ask (rLen X.P 24 x16) fun x17 =>
 Ask (rBin X.P .lss 3 false false x4 x17) fun x18 =>
 (∃ t, x18 = .bool t) ∧ (x18 = .bool true →
 Ask (rSel (aggArr x2) 17 1 false) fun x19 =>
 Ask (rIad X.P 24 x19 x4) fun x20 =>
 Ask (rLoad X w5 [b1] 23 x20) fun x21 =>
 Ask (rAgg 4 x21) fun x22 =>
 Ask (rSel (aggArr x22) 0 1 false) fun x23 =>
 Ask (rSel (aggArr x22) 1 1 false) fun x24 =>
 Ask (rSel (aggArr x22) 2 1 false) fun x25 =>
 Ask (rSel (aggArr x22) 3 1 false) fun x26 =>
 AskO X w5 [b1, b1] (kb11_1 b0 b1 x2 x15 x23 x24 x25 x26) false (Op.buildSlice 47 1 #[(0, Operand.tmp 35)]) 47 [(35, (.agg #[x15, x23, x24, x25, x26]))] fun x27 w27 =>
 AskO X w27 [] (kb11_1 b0 b1 x2 x15 x23 x24 x25 x26) true (appOp (.tmp 34) (.tmp 36) 47) 47 [(34, x3), (36, x27)] fun x28 w28 =>
 Ask (rBin X.P .add 3 false true x4 (J 1)) fun x29 =>
 Again X w28 [] [] fun w => I0 [x28, x29] w ∧ μ0 [x28, x29] w < μ0 [x3, x4] w5) ∧ (x18 = .bool false →
 AskO X w5 [b1] (kb11_2 b0 b1 x2 x15) false (Op.buildSlice 47 1 #[(0, Operand.tmp 35)]) 47 [(35, (.agg #[x15, (U 0), (U 0), (U 0), (U 0)]))] fun x19 w19 =>
 AskO X w19 [] (kb11_2 b0 b1 x2 x15) true (appOp (.tmp 34) (.tmp 36) 47) 47 [(34, x3), (36, x19)] fun x20 w20 =>
 Ask (rBin X.P .add 3 false true x4 (J 1)) fun x21 =>
 Again X w20 [] [] fun w => I0 [x20, x21] w ∧ μ0 [x20, x21] w < μ0 [x3, x4] w5)) ∧ (x10 = .bool false →
 Ret X w5 [] [] x3)) := by kernel_rfl
theorem keepsOps : Keeps1 Tryz.prog GT 11 (cOps 116 opP) := by
  refine keepsW (T := T0) (A := ann11) hMix keepT0 hGT (calls_of (by kernel_rfl)) (callsW_of (by kernel_rfl)) fun args d w0 hrd hpre hg => ?_
  obtain ⟨g, h, v, bl, c, sl, sr, l, r, rfl, ok, at0⟩ := hrd
  refine ⟨[.x (.v 0)], [], [], 2, env0 [.agg (csL d g h v bl c sl sr l r).toArray] w0, fun b => b, 0, rfl, rfl, fun X hX => mem_none hX rfl, fun X hP hS hw hX hR => ?_⟩
  subst hw; try dsimp only at hR
  rw [vc11 X]
  refine a_agg (csL_len _ _ _ _ _ _ _ _ _ _) at0.one ?_
  intro b0 hb0
  refine ⟨fun a w => ∃ (i : Nat) (o : Value), a = [o, J i] ∧ i ≤ opsN d ∧ Kn X w ∧ MRows X.w0 w 116 5 encO [b0] 1 (fun _ => o) (fun _ => mapN (opP d) i), fun a _ => match a with | [_, i] => opsN d - intNat i | _ => 0, fun w hw => ⟨0, _, rfl, Nat.zero_le _, hw.kn, MRows.nil X.w0 hw.stp encO _ 1 _ 5⟩, ?_⟩
  rintro q0 _ w ⟨i, o, he, hi, hk, hm⟩
  simp only [List.cons.injEq, and_true] at he
  obtain ⟨rfl, rfl⟩ := he
  have s0 := hk.stp0 hX
  have z0 := hk.sz0
  have hi64 : i ≤ 64 := by unfold opsN at hi; omega
  refine a_sel1 (v := v) (by kernel_rfl) ?_
  refine a_len hP tyU64L at0.v.1 ?_
  rw [ask_lssN]
  refine a_and1 (d := decide (i < 64)) (fun _ K' hK => by
    have e : (Ask (rBin X.P .lss 3 false true (J i) (J 64)) K') = K' (.bool (decide (i < 64))) := ask_lssN
    rw [e]; exact hK) ?_
  refine a_if (fun hc => ?_) fun hc => ?_
  · simp only [Bool.and_eq_true, decide_eq_true_eq] at hc
    obtain ⟨hV, h64⟩ := hc
    have hlt : i < opsN d := by unfold opsN; omega
    refine a_sel1 (v := v) (by kernel_rfl) ?_
    refine ld_U64 hP hk (at0.v.1.stp0 s0) rfl hV (fun _ _ => List.not_mem_nil) ?_
    rw [ask_uplain]
    intro b1 hb1
    rw [ask_uplain]
    refine a_sel1 (v := bl) (by kernel_rfl) ?_
    refine a_len hP tyW4 at0.bl.1 ?_
    rw [ask_lssN]
    have big : (mapN (opP d) i).length + 1 ≤ maxLen ∧ ((mapN (opP d) i).length + 1) * 40 ≤ 140737488355328 := by rw [mapN_len]; unfold maxLen; omega
    have hm1 := hm.more hb1
    refine a_ifD (fun hB => ?_) fun hB => ?_
    · refine a_sel1 (v := bl) (by kernel_rfl) ?_
      refine ld_W4 hP hk (at0.bl.1.stp0 s0) rfl hB (slAt_off at0.bl.1 (by rw [flat_len encS_len]; omega) (by simp; omega)) ?_
      skip
      refine a_fourS ?_
      refine a_pushR [opP d i] 1 rfl hX hP tyOP rfl rfl (by decide) encO_len hm1 (i := 0) (by decide) rfl (Nat.le_refl _) (fun b hb => .inr (by simpa [kb11_1, or_comm] using hb)) (fun b hb => by simpa [kb11_1, or_comm] using hb) (fun b hb => ⟨by simp at hb; simp [hb], by simp at hb; subst hb; omega⟩) (by decide) (by decide) (by kernel_rfl) (by simp [one_encO]) big.1 big.2 fun v' w2 k2 z2 hm2 => ?_
      rw [ask_succ (by omega)]
      intro w3 hw3
      refine ⟨⟨i + 1, v', rfl, hlt, hw3.kn, ((hm2.stp hw3.stp).less (fun b hb => List.mem_cons_of_mem _ hb)).congrV (fun j hj => ?_) (fun j hj => ?_)⟩, by simp [intNat]; omega⟩
      · obtain rfl : j = 0 := by omega
        rfl
      · obtain rfl : j = 0 := by omega
        exact (mapN_succ _ _).symm
    · have hz : opP d i = (d.V.getD i 0, 0) := by
        have : d.Bs.getD i 0 = 0 := getD_endN (by omega)
        unfold opP
        rw [this] <;> rfl
      refine a_pushR [(d.V.getD i 0, 0)] 1 rfl hX hP tyOP rfl rfl (by decide) encO_len hm1 (i := 0) (by decide) rfl (Nat.le_refl _) (fun b hb => .inr (by simpa [kb11_2, or_comm] using hb)) (fun b hb => by simpa [kb11_2, or_comm] using hb) (fun b hb => ⟨by simp at hb; simp [hb], by simp at hb; subst hb; omega⟩) (by decide) (by decide) (by kernel_rfl) (by simp [one_encO]) big.1 big.2 fun v' w2 k2 z2 hm2 => ?_
      rw [ask_succ (by omega)]
      intro w3 hw3
      refine ⟨⟨i + 1, v', rfl, hlt, hw3.kn, ((hm2.stp hw3.stp).less (fun b hb => List.mem_cons_of_mem _ hb)).congrV (fun j hj => ?_) (fun j hj => ?_)⟩, by simp [intNat]; omega⟩
      · obtain rfl : j = 0 := by omega
        rfl
      · obtain rfl : j = 0 := by omega
        show mapN (opP d) i ++ [(d.V.getD i 0, 0)] = _
        rw [← hz]
        exact (mapN_succ _ _).symm
  · have hn : i = opsN d := by
      simp only [Bool.and_eq_false_iff, decide_eq_false_iff_not] at hc
      unfold opsN at hi ⊢
      omega
    subst hn
    exact hR _ _ _ _ fun w2 hw2 => own_stp0 (hm.row 0 (by decide)) hw2.stp
def ann14 : Ann := ⟨[(3, ([3, 4], []))], [15], 70, [], [], none, [], []⟩
def kb14_0 (b0 : Nat) (x2 : Value) : List KB := [⟨b0, true, 27, (aggArr x2)⟩]
def kb14_1 (b0 b1 : Nat) (x2 x15 x24 x25 x26 x27 : Value) : List KB := [⟨b0, true, 27, (aggArr x2)⟩, ⟨b1, true, 131, #[x15, x24, x25, x26, x27]⟩]
def kb14_2 (b0 b1 : Nat) (x2 x15 : Value) : List KB := [⟨b0, true, 27, (aggArr x2)⟩, ⟨b1, true, 131, #[x15, (U 0), (U 0), (U 0), (U 0)]⟩]
theorem vc14 (X : Ctx) (β : Nat → Nat) (x0 : Value) : (run Tryz.prog ann14 14 [.x (.v 0)] [] [] 2).den X (env0 [x0] X.w0) 2 β 0 (fun _ _ _ => False) = (
 Ask (rAgg 67 x0) fun x2 =>
 AskNew X.w0 fun b0 =>
 ∃ (I0 : List Value → World → Prop) (μ0 : List Value → World → Nat), (∀ w, KnownV X X.w0 [] (kb14_0 b0 x2) w → I0 [(.slice none 0 0), (J 0)] w) ∧ ∀ x3 x4 w5, I0 [x3, x4] w5 →
 Ask (rSel (aggArr x2) 16 1 false) fun x6 =>
 Ask (rLen X.P 25 x6) fun x7 =>
 Ask (rBin X.P .lss 3 false false x4 x7) fun x8 =>
 AskG [(x8, true)] (rBin X.P .lss 3 false true x4 (J 64)) fun x9 =>
 Ask (rPick x8 x9 (.bool false)) fun x10 =>
 (∃ t, x10 = .bool t) ∧ (x10 = .bool true →
 Ask (rSel (aggArr x2) 16 1 false) fun x11 =>
 Ask (rIad X.P 25 x11 x4) fun x12 =>
 Ask (rLoad X w5 [] 22 x12) fun x13 =>
 Ask (rPlain x13) fun x14 =>
 AskNew w5 fun b1 =>
 Ask (rPlain x14) fun x15 =>
 Ask (rSel (aggArr x2) 17 1 false) fun x16 =>
 Ask (rLen X.P 24 x16) fun x17 =>
 Ask (rBin X.P .lss 3 false false x4 x17) fun x18 =>
 (∃ t, x18 = .bool t) ∧ (x18 = .bool true →
 Ask (rSel (aggArr x2) 17 1 false) fun x19 =>
 Ask (rIad X.P 24 x19 x4) fun x20 =>
 Ask (rLoad X w5 [b1] 23 x20) fun x21 =>
 AskF X 15 [x21] fun x22 =>
 Ask (rAgg 4 x22) fun x23 =>
 Ask (rSel (aggArr x23) 0 1 false) fun x24 =>
 Ask (rSel (aggArr x23) 1 1 false) fun x25 =>
 Ask (rSel (aggArr x23) 2 1 false) fun x26 =>
 Ask (rSel (aggArr x23) 3 1 false) fun x27 =>
 AskO X w5 [b1, b1] (kb14_1 b0 b1 x2 x15 x24 x25 x26 x27) false (Op.buildSlice 67 1 #[(0, Operand.tmp 36)]) 67 [(36, (.agg #[x15, x24, x25, x26, x27]))] fun x28 w28 =>
 AskO X w28 [] (kb14_1 b0 b1 x2 x15 x24 x25 x26 x27) true (appOp (.tmp 35) (.tmp 37) 67) 67 [(35, x3), (37, x28)] fun x29 w29 =>
 Ask (rBin X.P .add 3 false true x4 (J 1)) fun x30 =>
 Again X w29 [] [] fun w => I0 [x29, x30] w ∧ μ0 [x29, x30] w < μ0 [x3, x4] w5) ∧ (x18 = .bool false →
 AskO X w5 [b1] (kb14_2 b0 b1 x2 x15) false (Op.buildSlice 67 1 #[(0, Operand.tmp 36)]) 67 [(36, (.agg #[x15, (U 0), (U 0), (U 0), (U 0)]))] fun x19 w19 =>
 AskO X w19 [] (kb14_2 b0 b1 x2 x15) true (appOp (.tmp 35) (.tmp 37) 67) 67 [(35, x3), (37, x19)] fun x20 w20 =>
 Ask (rBin X.P .add 3 false true x4 (J 1)) fun x21 =>
 Again X w20 [] [] fun w => I0 [x20, x21] w ∧ μ0 [x20, x21] w < μ0 [x3, x4] w5)) ∧ (x10 = .bool false →
 Ret X w5 [] [] x3)) := by kernel_rfl
theorem keepsDOps : Keeps1 Tryz.prog GT 14 (cOps 131 opD) := by
  refine keepsW (T := Tca) (A := ann14) hMix keepTca hGT (calls_of (by kernel_rfl)) (callsW_of (by kernel_rfl)) fun args d w0 hrd hpre hg => ?_
  obtain ⟨g, h, v, bl, c, sl, sr, l, r, rfl, ok, at0⟩ := hrd
  refine ⟨[.x (.v 0)], [], [], 2, env0 [.agg (csL d g h v bl c sl sr l r).toArray] w0, fun b => b, 0, rfl, rfl, fun X hX => mem_none hX rfl, fun X hP hS hw hX hR => ?_⟩
  subst hw; try dsimp only at hR
  rw [vc14 X]
  refine a_agg (csL_len _ _ _ _ _ _ _ _ _ _) at0.one ?_
  intro b0 hb0
  refine ⟨fun a w => ∃ (i : Nat) (o : Value), a = [o, J i] ∧ i ≤ opsN d ∧ Kn X w ∧ MRows X.w0 w 131 5 encO [b0] 1 (fun _ => o) (fun _ => mapN (opD d) i), fun a _ => match a with | [_, i] => opsN d - intNat i | _ => 0, fun w hw => ⟨0, _, rfl, Nat.zero_le _, hw.kn, MRows.nil X.w0 hw.stp encO _ 1 _ 5⟩, ?_⟩
  rintro q0 _ w ⟨i, o, he, hi, hk, hm⟩
  simp only [List.cons.injEq, and_true] at he
  obtain ⟨rfl, rfl⟩ := he
  have s0 := hk.stp0 hX
  have z0 := hk.sz0
  have hi64 : i ≤ 64 := by unfold opsN at hi; omega
  refine a_sel1 (v := v) (by kernel_rfl) ?_
  refine a_len hP tyU64L at0.v.1 ?_
  rw [ask_lssN]
  refine a_and1 (d := decide (i < 64)) (fun _ K' hK => by
    have e : (Ask (rBin X.P .lss 3 false true (J i) (J 64)) K') = K' (.bool (decide (i < 64))) := ask_lssN
    rw [e]; exact hK) ?_
  refine a_if (fun hc => ?_) fun hc => ?_
  · simp only [Bool.and_eq_true, decide_eq_true_eq] at hc
    obtain ⟨hV, h64⟩ := hc
    have hlt : i < opsN d := by unfold opsN; omega
    refine a_sel1 (v := v) (by kernel_rfl) ?_
    refine ld_U64 hP hk (at0.v.1.stp0 s0) rfl hV (fun _ _ => List.not_mem_nil) ?_
    rw [ask_uplain]
    intro b1 hb1
    rw [ask_uplain]
    refine a_sel1 (v := bl) (by kernel_rfl) ?_
    refine a_len hP tyW4 at0.bl.1 ?_
    rw [ask_lssN]
    have big : (mapN (opD d) i).length + 1 ≤ maxLen ∧ ((mapN (opD d) i).length + 1) * 40 ≤ 140737488355328 := by rw [mapN_len]; unfold maxLen; omega
    have hm1 := hm.more hb1
    refine a_ifD (fun hB => ?_) fun hB => ?_
    · refine a_sel1 (v := bl) (by kernel_rfl) ?_
      refine ld_W4 hP hk (at0.bl.1.stp0 s0) rfl hB (slAt_off at0.bl.1 (by rw [flat_len encS_len]; omega) (by simp; omega)) ?_
      refine c_Least hS (getD_okS at0.bl.2 i) ?_
      refine a_fourS ?_
      refine a_pushR [opD d i] 1 rfl hX hP tyOR rfl rfl (by decide) encO_len hm1 (i := 0) (by decide) rfl (Nat.le_refl _) (fun b hb => .inr (by simpa [kb14_1, or_comm] using hb)) (fun b hb => by simpa [kb14_1, or_comm] using hb) (fun b hb => ⟨by simp at hb; simp [hb], by simp at hb; subst hb; omega⟩) (by decide) (by decide) (by kernel_rfl) (by simp [one_encO]) big.1 big.2 fun v' w2 k2 z2 hm2 => ?_
      rw [ask_succ (by omega)]
      intro w3 hw3
      refine ⟨⟨i + 1, v', rfl, hlt, hw3.kn, ((hm2.stp hw3.stp).less (fun b hb => List.mem_cons_of_mem _ hb)).congrV (fun j hj => ?_) (fun j hj => ?_)⟩, by simp [intNat]; omega⟩
      · obtain rfl : j = 0 := by omega
        rfl
      · obtain rfl : j = 0 := by omega
        exact (mapN_succ _ _).symm
    · have hz : opD d i = (d.V.getD i 0, 0) := by
        have : d.Bs.getD i 0 = 0 := getD_endN (by omega)
        unfold opD
        rw [this] <;> rfl
      refine a_pushR [(d.V.getD i 0, 0)] 1 rfl hX hP tyOR rfl rfl (by decide) encO_len hm1 (i := 0) (by decide) rfl (Nat.le_refl _) (fun b hb => .inr (by simpa [kb14_2, or_comm] using hb)) (fun b hb => by simpa [kb14_2, or_comm] using hb) (fun b hb => ⟨by simp at hb; simp [hb], by simp at hb; subst hb; omega⟩) (by decide) (by decide) (by kernel_rfl) (by simp [one_encO]) big.1 big.2 fun v' w2 k2 z2 hm2 => ?_
      rw [ask_succ (by omega)]
      intro w3 hw3
      refine ⟨⟨i + 1, v', rfl, hlt, hw3.kn, ((hm2.stp hw3.stp).less (fun b hb => List.mem_cons_of_mem _ hb)).congrV (fun j hj => ?_) (fun j hj => ?_)⟩, by simp [intNat]; omega⟩
      · obtain rfl : j = 0 := by omega
        rfl
      · obtain rfl : j = 0 := by omega
        show mapN (opD d) i ++ [(d.V.getD i 0, 0)] = _
        rw [← hz]
        exact (mapN_succ _ _).symm
  · have hn : i = opsN d := by
      simp only [Bool.and_eq_false_iff, decide_eq_false_iff_not] at hc
      unfold opsN at hi ⊢
      omega
    subst hn
    exact hR _ _ _ _ fun w2 hw2 => own_stp0 (hm.row 0 (by decide)) hw2.stp
end Go.Vc
