/-
  Lines from bytes: the two sets.
-/
import Derived.Test.YtoakfcihcmmihaaDoorDLn4
namespace Go.Vc
open Go Go.Proofs Go.RowKit

/-! ### the program's -/
def ann53 : Ann := ⟨[], [], 70, [(95, false)], [], none, [2], []⟩
def kb53_0 (b0 : Nat) : List KB := [⟨b0, true, 29, #[(U 0), (U 0), (U 0), (U 0), (U 0), (U 0), (U 0), (U 0), (U 0), (U 0), (U 0), (U 0), (.slice none 0 0), (.slice none 0 0)]⟩]
theorem vc53 (X : Ctx) (β : Nat → Nat) (x0 x1 : Value) : (run Tryd.prog ann53 53 [.x (.v 0), .x (.v 1)] [] [] 3).den X (env0 [x0, x1] X.w0) 3 β 0 (fun _ _ _ => False) = (
  AskO X X.w0 [] [] false (Go.Op.box 112 (Go.Operand.tmp 0)) 0 [(0, x0)] fun x3 w3 =>
  AskNew w3 fun b0 =>
  Ask (rBin X.P .lss 3 false true x1 (J 0)) fun x4 =>
  AskG [(x4, false)] (rBin X.P .gtr 3 false true x1 (J 1024)) fun x5 =>
  Ask (rPick x4 (.bool true) x5) fun x6 =>
  (∃ t, x6 = .bool t) ∧ (x6 = .bool true →
    Ret X w3 [b0] [] (.tuple #[(.agg #[(U 0), (U 0), (U 0), (U 0), (U 0), (U 0), (U 0), (U 0), (U 0), (U 0), (U 0), (U 0), (.slice none 0 0), (.slice none 0 0)]), (J 1)])) ∧ (x6 = .bool false →
    Ask (rGen X.P (Go.Op.makeFunc (Go.Fn.func 96) #[] #[Go.Operand.tmp 2]) 162 [(2, x3)]) fun x7 =>
    AskW X w3 [] (kb53_0 b0) false 95 [x1, x7] fun x8 w8 =>
    Ask (rAgg 14 x8) fun x9 =>
    Ask (rSel (aggArr x9) 0 1 false) fun x10 =>
    Ask (rSel (aggArr x9) 1 1 false) fun x11 =>
    Ask (rSel (aggArr x9) 2 1 false) fun x12 =>
    Ask (rSel (aggArr x9) 3 1 false) fun x13 =>
    Ask (rSel (aggArr x9) 4 1 false) fun x14 =>
    Ask (rSel (aggArr x9) 5 1 false) fun x15 =>
    Ask (rSel (aggArr x9) 6 1 false) fun x16 =>
    Ask (rSel (aggArr x9) 7 1 false) fun x17 =>
    Ask (rSel (aggArr x9) 8 1 false) fun x18 =>
    Ask (rSel (aggArr x9) 9 1 false) fun x19 =>
    Ask (rSel (aggArr x9) 10 1 false) fun x20 =>
    Ask (rSel (aggArr x9) 11 1 false) fun x21 =>
    Ask (rSel (aggArr x9) 12 1 false) fun x22 =>
    Ask (rSel (aggArr x9) 13 1 false) fun x23 =>
    Ret X w8 [b0] [] (.tuple #[(.agg #[x10, x11, x12, x13, x14, x15, x16, x17, x18, x19, x20, x21, x22, x23]), (J 0)]))) := by kernel_rfl
def zSetL : Value := SetV 0 0 0 (.slice none 0 0) (.slice none 0 0)
theorem zSetL_eq : Value.agg #[(U 0), (U 0), (U 0), (U 0), (U 0), (U 0), (U 0), (U 0), (U 0), (U 0), (U 0), (U 0), (.slice none 0 0), (.slice none 0 0)] = zSetL := by kernel_rfl
def cLinesG : Contract := fnW (Cods.cons cBs (Cods.cons cI Cods.nil)) (fun p _ => p.1.length ≤ mxF) (fun p w v w' => ((p.2.1 < 0 ∨ 1024 < p.2.1) → v = .tuple #[zSetL, J 1]) ∧
  (∀ n : Nat, p.2.1 = n → n ≤ 1024 → ∃ s, v = .tuple #[s, J 0] ∧ LSet w.heap.size w' p.1 n s))
def Tli : Table := T0.add 95 cBuildL
theorem keepTli : AllKeep Tryd.prog GH Tli := keepH0.add keepsBuildL
theorem keepsLinesG : Keeps1 Tryd.prog GH 53 cLinesG := by
  refine keepsW (T := Tli) (A := ann53) hMix keepTli hGH (calls_of (by kernel_rfl)) (callsW_of (by kernel_rfl)) fun args ⟨f, i, _⟩ w0 hrd hpre hg => ?_
  obtain ⟨x, _, rfl, hx, _, _, rfl, rfl, rfl⟩ := hrd
  dsimp only at hx hpre
  replace hx := bs_rd.1 hx
  refine ⟨[.x (.v 0), .x (.v 1)], [], [], 3, env0 [x, .int .i64 i] w0, fun b => b, 0, rfl, rfl, fun X hX => mem_none hX rfl, fun X hP hS hw hX hR => ?_⟩
  subst hw; try dsimp only at hR
  rw [vc53 X]
  obtain ⟨ax, cx, rfl, _⟩ := slAt_form hx.at_
  refine a_box hX.n rfl fun r w w3 hw k3 s3 su3 hr3 row3 sz3 => ?_
  have row3' : w3.heap[r]? = some (.cells #[.slice ax f.length cx] 112 (0, 0)) := row3
  intro b0 hb0
  rw [ask_lss]
  have bad : (i < 0 ∨ 1024 < i) → ∀ u ow bl, Ret X u ow bl (.tuple #[zSetL, J 1]) := fun h u ow bl => hR _ _ _ _ fun w _ => ⟨fun _ => rfl, fun n e hn => by omega⟩
  rw [zSetL_eq]
  by_cases h0 : i < 0
  · rw [show decide (i < ((0 : Nat) : Int)) = true by simpa using h0]
    refine a_G_off (condsV1_not (by decide)) fun v => ?_
    rw [ask_pickT]
    exact a_if (fun _ => bad (.inl h0) _ _ _) fun h => by cases h
  rw [show decide (i < ((0 : Nat) : Int)) = false by simpa using h0]
  refine a_G_on condsV1 ?_
  rw [ask_gtr, ask_pickF]
  refine a_ifD (fun h => bad (.inr h) _ _ _) fun h => ?_
  obtain ⟨n, rfl⟩ : ∃ k : Nat, i = k := ⟨i.toNat, by omega⟩
  have hn : n ≤ 1024 := by omega
  rw [ask_makeFunc]
  have q1 := hw.sz0
  have lo : ∀ {w : World}, KnownV X w3 [] (kb53_0 b0) w → b0 < w.heap.size := fun h => h.low (by simp [kb53_0])
  refine call_W hX hS (T := Tli) (f := 95) rfl (n, f) (fun w hw => ⟨⟨r, .slice ax f.length cx, rfl, ?_, hx.stp0 (hw.kn.stp0 hX)⟩, hn, hpre⟩) fun v w1 w2 h1 k2 s2 _ hp => ?_
  · have hl : r < w3.heap.size := by omega
    simp [World.cell?, hw.past r hl List.not_mem_nil, row3']
  have lo1 := lo h1
  obtain ⟨g, h, rfl, og, oh⟩ := hp
  dsimp only at og oh
  refine a_agg rfl (by simp [one_encS, own_one og, own_one oh]) ?_
  iterate 14 refine a_sel1 rfl ?_
  refine hR _ _ _ _ fun w hw => ⟨fun h => by omega, fun m e hm => ?_⟩
  obtain rfl : n = m := by omega
  refine ⟨_, rfl, g, h, rfl, own_mono (own_stp og hw.stp (off_own og (all1 lo1))) h1.sz0, own_mono (own_stp oh hw.stp (off_own oh (all1 lo1))) h1.sz0⟩

/-! ### the document's -/
def ann54 : Ann := ⟨[(5, ([7], [1]))], [], 70, [(100, false)], [], none, [], []⟩
def kb54_0 (b0 : Nat) : List KB := [⟨b0, true, 44, #[(J 0), (J 0), (J 0), (J 0), (J 0), (J 0), (J 0), (J 0), (J 0), (J 0), (J 0), (J 0), (J 0), (J 0), (J 0), (J 0), (J 0), (J 0), (J 0), (J 0), (J 0), (J 0), (U 0), (U 0), (U 0), (U 0), (.slice none 0 0), (J 0), (J 0), (J 0), (J 0), (J 0), (J 0), (J 0), (J 0), (J 0), (J 0), (J 0), (J 0), (J 0), (J 0), (J 0), (J 0), (J 0), (J 0), (J 0), (J 0), (J 0), (U 0), (U 0), (U 0), (U 0), (.slice none 0 0), (J 0), (J 0), (J 0), (J 0), (J 0), (J 0), (J 0), (J 0), (J 0), (J 0), (J 0), (J 0), (J 0), (J 0), (J 0), (J 0), (J 0), (J 0), (J 0), (J 0), (J 0), (U 0), (U 0), (U 0), (U 0), (.slice none 0 0), (.slice none 0 0), (.slice none 0 0)]⟩]
def kb54_1 (b0 b1 : Nat) (x10 : Value) : List KB := [⟨b0, true, 44, #[(J 0), (J 0), (J 0), (J 0), (J 0), (J 0), (J 0), (J 0), (J 0), (J 0), (J 0), (J 0), (J 0), (J 0), (J 0), (J 0), (J 0), (J 0), (J 0), (J 0), (J 0), (J 0), (U 0), (U 0), (U 0), (U 0), (.slice none 0 0), (J 0), (J 0), (J 0), (J 0), (J 0), (J 0), (J 0), (J 0), (J 0), (J 0), (J 0), (J 0), (J 0), (J 0), (J 0), (J 0), (J 0), (J 0), (J 0), (J 0), (J 0), (U 0), (U 0), (U 0), (U 0), (.slice none 0 0), (J 0), (J 0), (J 0), (J 0), (J 0), (J 0), (J 0), (J 0), (J 0), (J 0), (J 0), (J 0), (J 0), (J 0), (J 0), (J 0), (J 0), (J 0), (J 0), (J 0), (J 0), (U 0), (U 0), (U 0), (U 0), (.slice none 0 0), (.slice none 0 0), (.slice none 0 0)]⟩, ⟨b1, true, 44, (aggArr x10)⟩]
def kb54_2 (b0 b1 : Nat) (x12 : Value) : List KB := [⟨b0, true, 44, #[(J 0), (J 0), (J 0), (J 0), (J 0), (J 0), (J 0), (J 0), (J 0), (J 0), (J 0), (J 0), (J 0), (J 0), (J 0), (J 0), (J 0), (J 0), (J 0), (J 0), (J 0), (J 0), (U 0), (U 0), (U 0), (U 0), (.slice none 0 0), (J 0), (J 0), (J 0), (J 0), (J 0), (J 0), (J 0), (J 0), (J 0), (J 0), (J 0), (J 0), (J 0), (J 0), (J 0), (J 0), (J 0), (J 0), (J 0), (J 0), (J 0), (U 0), (U 0), (U 0), (U 0), (.slice none 0 0), (J 0), (J 0), (J 0), (J 0), (J 0), (J 0), (J 0), (J 0), (J 0), (J 0), (J 0), (J 0), (J 0), (J 0), (J 0), (J 0), (J 0), (J 0), (J 0), (J 0), (J 0), (U 0), (U 0), (U 0), (U 0), (.slice none 0 0), (.slice none 0 0), (.slice none 0 0)]⟩, ⟨b1, true, 44, (aggArr x12)⟩]
def kb54_3 (b0 b1 : Nat) (x19 : Value) : List KB := [⟨b0, true, 44, #[(J 0), (J 0), (J 0), (J 0), (J 0), (J 0), (J 0), (J 0), (J 0), (J 0), (J 0), (J 0), (J 0), (J 0), (J 0), (J 0), (J 0), (J 0), (J 0), (J 0), (J 0), (J 0), (U 0), (U 0), (U 0), (U 0), (.slice none 0 0), (J 0), (J 0), (J 0), (J 0), (J 0), (J 0), (J 0), (J 0), (J 0), (J 0), (J 0), (J 0), (J 0), (J 0), (J 0), (J 0), (J 0), (J 0), (J 0), (J 0), (J 0), (U 0), (U 0), (U 0), (U 0), (.slice none 0 0), (J 0), (J 0), (J 0), (J 0), (J 0), (J 0), (J 0), (J 0), (J 0), (J 0), (J 0), (J 0), (J 0), (J 0), (J 0), (J 0), (J 0), (J 0), (J 0), (J 0), (J 0), (U 0), (U 0), (U 0), (U 0), (.slice none 0 0), (.slice none 0 0), (.slice none 0 0)]⟩, ⟨b1, true, 44, (aggArr x19)⟩]
theorem vc54 (X : Ctx) (β : Nat → Nat) (x0 x1 : Value) : (run Tryd.prog ann54 54 [.x (.v 0), .x (.v 1)] [] [] 3).den X (env0 [x0, x1] X.w0) 3 β 0 (fun _ _ _ => False) = (
  AskNew X.w0 fun b0 =>
  Ask (rBin X.P .lss 3 false true x1 (J 0)) fun x3 =>
  AskG [(x3, false)] (rBin X.P .gtr 3 false true x1 (J 1024)) fun x4 =>
  Ask (rPick x3 (.bool true) x4) fun x5 =>
  (∃ t, x5 = .bool t) ∧ (x5 = .bool true →
    Ret X X.w0 [b0] [] (.tuple #[(.agg #[(J 0), (J 0), (J 0), (J 0), (J 0), (J 0), (J 0), (J 0), (J 0), (J 0), (J 0), (J 0), (J 0), (J 0), (J 0), (J 0), (J 0), (J 0), (J 0), (J 0), (J 0), (J 0), (U 0), (U 0), (U 0), (U 0), (.slice none 0 0), (J 0), (J 0), (J 0), (J 0), (J 0), (J 0), (J 0), (J 0), (J 0), (J 0), (J 0), (J 0), (J 0), (J 0), (J 0), (J 0), (J 0), (J 0), (J 0), (J 0), (J 0), (U 0), (U 0), (U 0), (U 0), (.slice none 0 0), (J 0), (J 0), (J 0), (J 0), (J 0), (J 0), (J 0), (J 0), (J 0), (J 0), (J 0), (J 0), (J 0), (J 0), (J 0), (J 0), (J 0), (J 0), (J 0), (J 0), (J 0), (U 0), (U 0), (U 0), (U 0), (.slice none 0 0), (.slice none 0 0), (.slice none 0 0)]), (J 1)])) ∧ (x5 = .bool false →
    AskW X X.w0 [] (kb54_0 b0) false 100 [x0, (J 1), (J 0)] fun x6 w6 =>
    AskW X w6 [] (kb54_0 b0) false 100 [x0, (J 2), (J 0)] fun x7 w7 =>
    AskW X w7 [] (kb54_0 b0) false 100 [x0, (J 3), (J 0)] fun x8 w8 =>
    Ask (rBld X.P 44 #[(0, (J 2)), (1, x6), (2, x7), (3, x8)]) fun x9 =>
    AskNew w8 fun b1 =>
    Ask (rAgg 81 x9) fun x10 =>
    ∃ (I0 : List Value → World → Prop) (μ0 : List Value → World → Nat), (∀ w, KnownV X w8 [b1] (kb54_1 b0 b1 x10) w → I0 [(J 0), x10] w) ∧ ∀ x11 x12 w13, I0 [x11, x12] w13 →
      Ask (rBin X.P .lss 3 false false x11 x1) fun x14 =>
      (∃ t, x14 = .bool t) ∧ (x14 = .bool true →
        Ask (rSel (aggArr x12) 79 1 false) fun x15 =>
        AskW X w13 [] (kb54_2 b0 b1 x12) false 100 [x0, (J 4), x11] fun x16 w16 =>
        AskO X w16 [] (kb54_2 b0 b1 x12) false (Go.Op.buildSlice 42 1 #[(0, Go.Operand.tmp 31)]) 42 [(31, x16)] fun x17 w17 =>
        AskO X w17 [] (kb54_2 b0 b1 x12) true (appOp (.tmp 28) (.tmp 32) 42) 42 [(28, x15), (32, x17)] fun x18 w18 =>
        Ask (rUpd (aggArr x12) 79 1 x18) fun x19 =>
        Ask (rSel (aggArr x19) 80 1 false) fun x20 =>
        AskW X w18 [b1] (kb54_3 b0 b1 x19) false 100 [x0, (J 5), x11] fun x21 w21 =>
        AskO X w21 [] (kb54_3 b0 b1 x19) false (Go.Op.buildSlice 42 1 #[(0, Go.Operand.tmp 39)]) 42 [(39, x21)] fun x22 w22 =>
        AskO X w22 [] (kb54_3 b0 b1 x19) true (appOp (.tmp 36) (.tmp 40) 42) 42 [(36, x20), (40, x22)] fun x23 w23 =>
        Ask (rUpd (aggArr x19) 80 1 x23) fun x24 =>
        Ask (rBin X.P .add 3 false true x11 (J 1)) fun x25 =>
        Again X w23 [b1] [] fun w => I0 [x25, x24] w ∧ μ0 [x25, x24] w < μ0 [x11, x12] w13) ∧ (x14 = .bool false →
        Ask (rAgg 81 x12) fun x15 =>
        Ret X w13 [b0] [] (.tuple #[x15, (J 0)])))) := by kernel_rfl
def zEL : List Value := [J 0, J 0, J 0, J 0, J 0, J 0, J 0, J 0, J 0, J 0, J 0, J 0, J 0, J 0, J 0, J 0, J 0, J 0, J 0, J 0, J 0, U 0, U 0, U 0, U 0, .slice none 0 0]
def zRSetL : Value := .agg ([J 0] ++ zEL ++ zEL ++ zEL ++ [Value.slice none 0 0, Value.slice none 0 0]).toArray
/-- The document's set, as it is made. -/
def RLSet (lo : Nat) (w : World) (f : List Nat) (n : Nat) (v : Value) : Prop := ∃ g h, v = RSetV (glN f 1 0) (glN f 2 0) (encE (glN f 3 0)) g h ∧ w.ownsRow lo 39 26 g n ((glist f 4 n).flatMap encE) ∧ w.ownsRow lo 39 26 h n ((glist f 5 n).flatMap encE)
theorem RLSet.stp {lo : Nat} {u w : World} {f : List Nat} {n : Nat} {v : Value} {ex : List Nat} (h : RLSet lo u f n v) (hs : Stp ex u w) (he : ∀ b ∈ ex, b < lo) : RLSet lo w f n v := by
  obtain ⟨g, h, e, og, oh⟩ := h
  exact ⟨g, h, e, own_stp og hs (off_own og he), own_stp oh hs (off_own oh he)⟩
theorem RLSet.rd {lo : Nat} {w : World} {f : List Nat} {n : Nat} {v : Value} (h : RLSet lo w f n v) : cRSetL.rd w v (glN f 1 0, glN f 2 0, glN f 3 0, glist f 4 n, glist f 5 n) := by
  obtain ⟨g, h, e, og, oh⟩ := h
  exact ⟨g, h, e, glN_lt _ _ _, glN_lt _ _ _, glN_lt _ _ _, ⟨by rw [glist_len]; exact own_slAt og, glist_ok⟩, ⟨by rw [glist_len]; exact own_slAt oh, glist_ok⟩⟩
def cRLines : Contract := fnW (Cods.cons cBs (Cods.cons cI Cods.nil)) (fun p _ => p.1.length ≤ mxF) (fun p w v w' => ((p.2.1 < 0 ∨ 1024 < p.2.1) → v = .tuple #[zRSetL, J 1]) ∧
  (∀ n : Nat, p.2.1 = n → n ≤ 1024 → ∃ s, v = .tuple #[s, J 0] ∧ RLSet w.heap.size w' p.1 n s))
def Trli : Table := T0.add 100 cRline
theorem keepTrli : AllKeep Tryd.prog GH Trli := keepH0.add keepsRline
theorem cells_own {w : World} {base e size n : Nat} {v : Value} {xs : List Value} (h : w.ownsRow base e size v n xs) : v.cells = #[v] := by
  obtain ⟨a, c, rfl, _⟩ := slAt_form (own_slAt h); rfl
theorem RSet_agg {K : Value → Prop} {b bl q : Nat} {g h : Value} (hg : g.oneCell' = true) (hh : h.oneCell' = true) (hK : K (RSetV b bl (encE q) g h)) : Ask (rAgg 81 (RSetV b bl (encE q) g h)) K := by rw [ask_aggR hg hh]; exact hK
theorem upd_g {b bl : Nat} {q : List Value} {g h x : Value} (hq : q.length = 26) (hx : x.cells = #[x]) (h1 : x.oneCell' = true) {K : Value → Prop} (hK : K (RSetV b bl q x h)) : Ask (rUpd (aggArr (RSetV b bl q g h)) 79 1 x) K := by
  have e : Ask (rUpd (aggArr (RSetV b bl q g h)) 79 1 x) K = K (RSetV b bl q x h) := ask_eq fun v => by
    unfold rUpd
    have hl : ([J 2] ++ encE b ++ encE bl ++ q).length = 79 := by simp [encE_len, hq]
    have hs : RSetV b bl q x h = .agg (splice (aggArr (RSetV b bl q g h)) 79 x.cells.toList) := by
      rw [hx]
      show Value.agg ([J 2] ++ encE b ++ encE bl ++ q ++ [x, h]).toArray = .agg (splice ([J 2] ++ encE b ++ encE bl ++ q ++ [g, h]).toArray 79 [x])
      unfold splice
      congr 2
      rw [List.take_append_of_le_length (by omega), List.take_of_length_le (by omega), List.drop_append, List.drop_of_length_le (by rw [hl]; simp), hl]
      simp
    rw [hs]
    exact ⟨fun h => h.2.2.2, fun h' => ⟨by show 79 + 1 ≤ ([J 2] ++ encE b ++ encE bl ++ q ++ [g, h]).toArray.size; simp [encE_len, hq], by rw [hx]; rfl, by rw [hx]; simp [h1], h'⟩⟩
  rw [e]; exact hK
theorem upd_h {b bl : Nat} {q : List Value} {g h x : Value} (hq : q.length = 26) (hx : x.cells = #[x]) (h1 : x.oneCell' = true) {K : Value → Prop} (hK : K (RSetV b bl q g x)) : Ask (rUpd (aggArr (RSetV b bl q g h)) 80 1 x) K := by
  have e : Ask (rUpd (aggArr (RSetV b bl q g h)) 80 1 x) K = K (RSetV b bl q g x) := ask_eq fun v => by
    unfold rUpd
    have hl : ([J 2] ++ encE b ++ encE bl ++ q).length = 79 := by simp [encE_len, hq]
    have hs : RSetV b bl q g x = .agg (splice (aggArr (RSetV b bl q g h)) 80 x.cells.toList) := by
      rw [hx]
      show Value.agg ([J 2] ++ encE b ++ encE bl ++ q ++ [g, x]).toArray = .agg (splice ([J 2] ++ encE b ++ encE bl ++ q ++ [g, h]).toArray 80 [x])
      unfold splice
      congr 2
      rw [List.take_append, List.take_of_length_le (by omega), List.drop_append, List.drop_of_length_le (by rw [hl]; simp), hl]
      simp
    rw [hs]
    exact ⟨fun h => h.2.2.2, fun h' => ⟨by show 80 + 1 ≤ ([J 2] ++ encE b ++ encE bl ++ q ++ [g, h]).toArray.size; simp [encE_len, hq], by rw [hx]; rfl, by rw [hx]; simp [h1], h'⟩⟩
  rw [e]; exact hK
theorem keepsRLines : Keeps1 Tryd.prog GH 54 cRLines := by
  refine keepsW (T := Trli) (A := ann54) hMix keepTrli hGH (calls_of (by kernel_rfl)) (callsW_of (by kernel_rfl)) fun args ⟨f, i, _⟩ w0 hrd hpre hg => ?_
  obtain ⟨x, _, rfl, hx, _, _, rfl, rfl, rfl⟩ := hrd
  dsimp only at hx hpre
  replace hx := bs_rd.1 hx
  refine ⟨[.x (.v 0), .x (.v 1)], [], [], 3, env0 [x, .int .i64 i] w0, fun b => b, 0, rfl, rfl, fun X hX => mem_none hX rfl, fun X hP hS hw hX hR => ?_⟩
  subst hw; try dsimp only at hR
  rw [vc54 X]
  intro b0 hb0
  rw [ask_lss]
  have bad : (i < 0 ∨ 1024 < i) → ∀ u ow bl, Ret X u ow bl (.tuple #[zRSetL, J 1]) := fun h u ow bl => hR _ _ _ _ fun w _ => ⟨fun _ => rfl, fun n e hn => by omega⟩
  by_cases h0 : i < 0
  · rw [show decide (i < ((0 : Nat) : Int)) = true by simpa using h0]
    refine a_G_off (condsV1_not (by decide)) fun v => ?_
    rw [ask_pickT]
    exact a_if (fun _ => bad (.inl h0) _ _ _) fun h => by cases h
  rw [show decide (i < ((0 : Nat) : Int)) = false by simpa using h0]
  refine a_G_on condsV1 ?_
  rw [ask_gtr, ask_pickF]
  refine a_ifD (fun h => bad (.inr h) _ _ _) fun hle => ?_
  obtain ⟨n, rfl⟩ : ∃ k : Nat, i = k := ⟨i.toNat, by omega⟩
  have hn : n ≤ 1024 := by omega
  have one : ∀ (k i : Nat) (u : World) (ow : List Nat) (bl : List KB) (KW : Value → World → Prop), k < 256 → i ≤ 1024 →
      (∀ w w', KnownV X u ow bl w → Kn X w' → Stp [] w w' → Stp ow u w' → KW (E (glN f k i)) w') → AskW X u ow bl false 100 [x, J k, J i] KW := fun k i u ow bl KW h1 h2 hK => by
    refine call_W hX hS (T := Trli) (f := 100) rfl (f, k, i, ()) (fun w hw => ⟨⟨_, _, rfl, bs_rd.2 (hx.stp0 (hw.kn.stp0 hX)), _, _, rfl, rfl, _, _, rfl, rfl, rfl⟩, h1, (by dsimp only; omega), hpre⟩) fun v w w' hw hk hs hsu hp => ?_
    obtain rfl := hp
    exact hK w w' hw hk hs hsu
  refine one 1 0 _ _ _ _ (by decide) (by decide) fun u1 w1 h1 k1 s1 su1 => ?_
  refine one 2 0 _ _ _ _ (by decide) (by decide) fun u2 w2 h2 k2 s2 su2 => ?_
  refine one 3 0 _ _ _ _ (by decide) (by decide) fun u3 w3 h3 k3 s3 su3 => ?_
  have lo3 : b0 < u3.heap.size := h3.low (by simp [kb54_0])
  generalize ea : glN f 1 0 = A
  generalize eb : glN f 2 0 = B_
  generalize ec : glN f 3 0 = C
  refine a_bld ([J 2] ++ encE A ++ encE B_ ++ encE C ++ [Value.slice none 0 0, Value.slice none 0 0]).toArray hP (by kernel_rfl) ?_
  intro b1 hb1
  have b01 : b0 < b1 := by have := s3.size; omega
  have fold : Value.agg ([J 2] ++ encE A ++ encE B_ ++ encE C ++ [Value.slice none 0 0, Value.slice none 0 0]).toArray = RSetV A B_ (encE C) (.slice none 0 0) (.slice none 0 0) := rfl
  rw [fold, ask_aggR rfl rfl]
  have hq : (encE C).length = 26 := rfl
  refine ⟨fun a w => ∃ (k B : Nat) (g h : Value), a = [J k, RSetV A B_ (encE C) g h] ∧ k ≤ n ∧ b1 < B ∧ X.w0.heap.size ≤ B ∧ B ≤ w.heap.size ∧
      w.ownsRow B 39 26 g k ((glist f 4 k).flatMap encE) ∧ w.ownsRow B 39 26 h k ((glist f 5 k).flatMap encE) ∧ (∀ q, g.ownBlock = some q → h.ownBlock ≠ some q) ∧ Kn X w,
    fun a _ => match a with | i :: _ => n - intNat i | _ => 0,
    fun w hw => ⟨0, w.heap.size, _, _, rfl, Nat.zero_le _, hw.low (by simp [kb54_1]), hw.sz0, Nat.le_refl _, World.ownsRow_nil _ _ _ _, World.ownsRow_nil _ _ _ _, (fun _ h => by cases h), hw.kn⟩, ?_⟩
  rintro _ _ w ⟨k, B, g, h, he, hk, hB, hB0, hBw, og, oh, hgh, hkn⟩
  simp only [List.cons.injEq, and_true] at he
  obtain ⟨rfl, rfl⟩ := he
  rw [ask_lssN]
  refine a_ifD (fun hlt => ?_) fun hge => ?_
  · refine a_sel1 (v := g) rfl ?_
    refine one 4 k _ _ _ _ (by decide) (by omega) fun u4 w4 h4 k4 s4 su4 => ?_
    have s4w := su4.size
    have og4 := own_stp0 og su4
    have oh4 := own_stp0 oh su4
    refine a_push (encE (glN f 4 k)).toArray hX hP tyE rfl rfl (by decide) (by decide) (by decide) (by kernel_rfl) rfl (by simp [one_encE]) rfl hB0 (by omega) og4 (by simp only [maxLen]; omega) (by omega) fun g2 w5 k5 s5 og5 hbl5 => ?_
    have eg : (glist f 4 k).flatMap encE ++ (encE (glN f 4 k)).toArray.toList = (glist f 4 (k + 1)).flatMap encE := by rw [glist_succ, List.flatMap_append]; simp
    rw [eg] at og5
    refine upd_g hq (cells_own og5) (own_one og5) ?_
    refine a_sel1 (v := h) rfl ?_
    have oh5 := own_stp oh4 s5 fun q hq hm => hgh q (by simpa using hm) hq
    have hgh5 : ∀ q, g2.ownBlock = some q → h.ownBlock ≠ some q := fun q hq hh => by
      rcases hbl5 with hb | ⟨r, hb, hr⟩
      · rw [hb] at hq; exact hgh q hq hh
      · rw [hb] at hq; cases hq
        have := (oh4.lt _ hh).2
        omega
    refine one 5 k _ _ _ _ (by decide) (by omega) fun u6 w6 h6 k6 s6 su6 => ?_
    have s5w := s5.size
    have s6w := su6.size
    have hBb : b1 < B := hB
    have og6 := own_stp og5 su6 (off_own og5 (all1 hBb))
    have oh6 := own_stp oh5 su6 (off_own oh5 (all1 hBb))
    refine a_push (encE (glN f 5 k)).toArray hX hP tyE rfl rfl (by decide) (by decide) (by decide) (by kernel_rfl) rfl (by simp [one_encE]) rfl hB0 (by omega) oh6 (by simp only [maxLen]; omega) (by omega) fun g3 w7 k7 s7 oh7 hbl7 => ?_
    have eh : (glist f 5 k).flatMap encE ++ (encE (glN f 5 k)).toArray.toList = (glist f 5 (k + 1)).flatMap encE := by rw [glist_succ, List.flatMap_append]; simp
    rw [eh] at oh7
    refine upd_h hq (cells_own oh7) (own_one oh7) ?_
    rw [ask_succ (by omega)]
    intro w8 hw8
    have s8w := hw8.size
    have s7w := s7.size
    have og7 := own_stp og6 s7 fun q hq hm => hgh5 q hq (by simpa using hm)
    have hgh7 : ∀ q, g2.ownBlock = some q → g3.ownBlock ≠ some q := fun q hq hh => by
      rcases hbl7 with hb | ⟨r, hb, hr⟩
      · rw [hb] at hh; exact hgh5 q hq hh
      · rw [hb] at hh; cases hh
        have := (og6.lt _ hq).2
        omega
    exact ⟨⟨k + 1, B, g2, g3, rfl, hlt, hB, hB0, by omega, own_stp og7 hw8.stp (off_own og7 (all1 hBb)), own_stp oh7 hw8.stp (off_own oh7 (all1 hBb)), hgh7, hw8.kn⟩, by simp [intNat]; omega⟩
  · obtain rfl : k = n := by omega
    refine RSet_agg (own_one og) (own_one oh) ?_
    have hb0B : b0 < B := by omega
    refine hR _ _ _ _ fun w9 hw9 => ⟨fun hb => by omega, fun m e hm => ?_⟩
    obtain rfl : k = m := by omega
    subst ea; subst eb; subst ec
    exact ⟨_, rfl, g, h, rfl, own_mono (own_stp og hw9.stp (off_own og (all1 hb0B))) hB0, own_mono (own_stp oh hw9.stp (off_own oh (all1 hb0B))) hB0⟩
#print axioms keepsRLines
end Go.Vc
