/-
  The document's set of generators over the scalars: commitments, sums of vectors, bits.
-/
import Derived.Test.YtcnmnmhmmgjblaaGreatDoorDIe
namespace Go.Vc
open Go Go.Proofs Go.RowKit
/-! ### elements, sets -/
def encEF (e : F) : List Value := encE e.val
theorem encEF_len (e : F) : (encEF e).length = 26 := rfl
theorem encEF_inj (a b : F) (h : encEF a = encEF b) : a = b := val_inj (encE_inj (val_lt a) (val_lt b) h)
theorem one_encEF (e : F) : (encEF e).all (·.oneCell') = true := one_encE _
def cLEF : Cod (List F) := cL encEF (fun _ => True) 26 encEF_len (fun a b _ _ h => encEF_inj a b h)
theorem cLEF_stable : cLEF.Stable := cL_stable
abbrev LsEF := Ls encEF (fun _ : F => True)
/-- A set: B, Blind, Q, G, H. -/
abbrev SetF : Type := F × F × F × List F × List F
def rsetL (p : SetF) (g h : Value) : List Value := [J 2] ++ encEF p.1 ++ encEF p.2.1 ++ encEF p.2.2.1 ++ [g, h]
theorem rsetL_len (p : SetF) (g h : Value) : (rsetL p g h).length = 81 := rfl
def cRSetF : Cod SetF := ⟨fun w v p => ∃ g h, v = .agg (rsetL p g h).toArray ∧ cLEF.rd w g p.2.2.2.1 ∧ cLEF.rd w h p.2.2.2.2, fun w v ⟨b, bl, q, G, H⟩ ⟨b', bl', q', G', H'⟩ ⟨g, h, e, hg, hh⟩ ⟨g', h', e', hg', hh'⟩ => by
  dsimp only at hg hh hg' hh'
  rw [e] at e'
  simp only [Value.agg.injEq] at e'
  have e' := congrArg Array.toList e'
  simp only [rsetL, List.append_assoc] at e'
  obtain ⟨_, e'⟩ := List.append_inj e' rfl
  obtain ⟨e1, e'⟩ := List.append_inj e' rfl
  obtain ⟨e2, e'⟩ := List.append_inj e' rfl
  obtain ⟨e3, e'⟩ := List.append_inj e' rfl
  simp only [List.cons.injEq, and_true] at e'
  obtain ⟨rfl, rfl⟩ := e'
  rw [encEF_inj _ _ e1, encEF_inj _ _ e2, encEF_inj _ _ e3, cLEF.inj _ _ _ _ hg hg', cLEF.inj _ _ _ _ hh hh']⟩
theorem cRSetF_stable : cRSetF.Stable := fun _ _ _ _ hs ⟨g, h, e, hg, hh⟩ => ⟨g, h, e, cLEF_stable _ _ _ _ hs hg, cLEF_stable _ _ _ _ hs hh⟩
theorem rsetL_one {p : SetF} {g h : Value} (hg : g.oneCell' = true) (hh : h.oneCell' = true) : (rsetL p g h).all (·.oneCell') = true := by
  simp only [rsetL, List.all_append, one_encEF, List.all_cons, List.all_nil, hg, hh, Bool.and_true]
  rfl
section
variable {X : Ctx} {u : World} {v : Value} {n i : Nat} {ow : List Nat} {K : Value → Prop}
theorem aggEI : agg? Tryz.prog 62 = some true := by kernel_rfl
theorem szEI : sz Tryz.prog 62 = some 26 := by kernel_rfl
theorem tyEI : ElTy Tryz.prog 63 62 26 224 (.agg #[J 0, J 0, J 0, J 0, J 0, J 0, J 0, J 0, J 0, J 0, J 0, J 0, J 0, J 0, J 0, J 0, J 0, J 0, J 0, J 0, J 0, U 0, U 0, U 0, U 0, .slice none 0 0]) := ⟨by kernel_rfl, by kernel_rfl⟩
/-- Element i of a list of elements. -/
theorem ld_EF {l : List F} (hP : X.P = Tryz.prog) (hk : Kn X u) (h : SlAt u v n (l.flatMap encEF)) (hn : l.length = n) (hi : i < l.length) (how : ∀ b, v.ownBlock = some b → b ∉ ow)
    (hK : K (EF (l.getD i 0))) : Ask (rIad X.P 63 v (J i)) fun p => Ask (rLoad X u ow 62 p) K := by
  refine a_iadN hP tyEI h (by omega) ?_
  have e : l.getD i 0 = l[i] := by rw [List.getD_eq_getElem?_getD, List.getElem?_eq_getElem hi]; rfl
  refine a_load_agg (cs := encEF l[i]) hk h (by rw [hP]; exact aggEI) (by rw [hP]; exact szEI) how (by simp [encEF, encE]) (flat_at encEF_len l i _ (List.getElem?_eq_getElem hi)) ?_
  rw [← e]; exact hK
variable {p : SetF} {g h : Value}
theorem a_setB (hK : K (EF p.1)) : Ask (rSel (aggArr (.agg (rsetL p g h).toArray)) 1 26 true) K := a_selL (ds := encEF p.1) rfl (by rw [rsetL_len]; omega) hK
theorem a_setBl (hK : K (EF p.2.1)) : Ask (rSel (aggArr (.agg (rsetL p g h).toArray)) 27 26 true) K := a_selL (ds := encEF p.2.1) rfl (by rw [rsetL_len]; omega) hK
theorem a_setBlK (hK : K (S p.2.1.val)) : Ask (rSel (aggArr (.agg (rsetL p g h).toArray)) 48 4 true) K := a_selL (ds := encS p.2.1.val) rfl (by rw [rsetL_len]; omega) hK
theorem a_setG (hK : K g) : Ask (rSel (aggArr (.agg (rsetL p g h).toArray)) 79 1 false) K := a_sel1 rfl hK
theorem a_setH (hK : K h) : Ask (rSel (aggArr (.agg (rsetL p g h).toArray)) 80 1 false) K := a_sel1 rfl hK
end
theorem ask_aggEF {K : Value → Prop} {e : F} : Ask (rAgg 26 (EF e)) K = K (EF e) := ask_aggE
theorem ask_zE {K : Value → Prop} : Ask (rAgg 26 (.agg #[J 0, J 0, J 0, J 0, J 0, J 0, J 0, J 0, J 0, J 0, J 0, J 0, J 0, J 0, J 0, J 0, J 0, J 0, J 0, J 0, J 0, U 0, U 0, U 0, U 0, .slice none 0 0])) K = K (.agg #[J 0, J 0, J 0, J 0, J 0, J 0, J 0, J 0, J 0, J 0, J 0, J 0, J 0, J 0, J 0, J 0, J 0, J 0, J 0, J 0, J 0, U 0, U 0, U 0, U 0, .slice none 0 0]) := ask_agg rfl (by simp [U, Value.oneCell'])
def Tse : Table := (T0.add 131 cqETimes).add 132 cqEAdd
theorem keepTse : AllKeep Tryz.prog GT Tse := (keepT0.add keepsqETimes).add keepsqEAdd
section
variable {X : Ctx} {K : Value → Prop}
theorem c_Times (hS : X.S = Tse.spec) (a : F) {n : Nat} (hn : n < W256) (hK : K (EF (a * rF n))) : AskF X 131 [EF a, S n] K := call_PE hS (T := Tse) (f := 131) rfl (a, n) hn hK
theorem c_EAdd (hS : X.S = Tse.spec) (a b : F) (hK : K (EF (a + b))) : AskF X 132 [EF a, EF b] K := call_PE hS (T := Tse) (f := 132) rfl (a, b) trivial hK
end
def ann109 : Ann := ⟨[], [131, 132], 70, [], [4, 5], none, [], []⟩
theorem vc109 (X : Ctx) (β : Nat → Nat) (x0 x1 x2 : Value) : (run Tryz.prog ann109 109 [.x (.v 0), .x (.v 1), .x (.v 2)] [] [] 4).den X (env0 [x0, x1, x2] X.w0) 4 β 0 (fun _ _ _ => False) = (
 Ask (rAgg 81 x0) fun x4 =>
 AskNew X.w0 fun _ =>
 Ask (rAgg 4 x1) fun x5 =>
 AskNew X.w0 fun _ =>
 Ask (rAgg 4 x2) fun x6 =>
 AskNew X.w0 fun _ =>
 AskNew X.w0 fun b3 =>
 Ask (rSel (aggArr x4) 1 26 true) fun x7 =>
 AskF X 131 [x7, x5] fun x8 =>
 Ask (rSel (aggArr x4) 27 26 true) fun x9 =>
 AskF X 131 [x9, x6] fun x10 =>
 AskF X 132 [x8, x10] fun x11 =>
 Ask (rAgg 26 x11) fun x12 =>
 Ret X X.w0 [b3] [] x12) := by kernel_rfl
def cRCm : Contract := fnW (Cods.cons cRSetF (Cods.cons cS (Cods.cons cS Cods.nil))) (fun _ _ => True) (fun p _ v _ => v = EF (p.1.1 * rF p.2.1 + p.1.2.1 * rF p.2.2.1))
theorem keepsRCm : Keeps1 Tryz.prog GT 109 cRCm := by
  refine keepsW (T := Tse) (A := ann109) hMix keepTse hGT (calls_of (by kernel_rfl)) (callsW_of (by kernel_rfl)) fun args ⟨p, a, b, _⟩ w0 hrd hpre hg => ?_
  obtain ⟨_, _, rfl, ⟨g, h, rfl, hg, hh⟩, _, _, rfl, ⟨rfl, ha⟩, _, _, rfl, ⟨rfl, hb⟩, rfl⟩ := hrd
  dsimp only at ha hb
  replace hg : LsEF w0 g p.2.2.2.1 := hg
  replace hh : LsEF w0 h p.2.2.2.2 := hh
  refine ⟨[.x (.v 0), .x (.v 1), .x (.v 2)], [], [], 4, env0 [.agg (rsetL p g h).toArray, S a, S b] w0, fun b => b, 0, rfl, rfl, fun X hX => mem_none hX rfl, fun X hP hS hw hX hR => ?_⟩
  subst hw; try dsimp only at hR
  rw [vc109 X]
  refine a_agg (rsetL_len _ _ _) (rsetL_one (slAt_one hg.1) (slAt_one hh.1)) ?_
  intro _ _
  rw [ask_aggS]; intro _ _
  rw [ask_aggS]; intro _ _
  try (rw [ask_zE]; intro _ _)
  try intro _ _
  refine a_setB ?_
  refine c_Times hS _ ha ?_
  refine a_setBl ?_
  refine c_Times hS _ hb ?_
  refine c_EAdd hS _ _ ?_
  try rw [ask_aggEF]
  exact hR _ _ _ _ fun _ _ => rfl
def ann111 : Ann := ⟨[(3, ([10], [3]))], [131, 132], 70, [], [4, 5, 8, 9], none, [], []⟩
def kb111_0 (b0 b1 b2 b3 : Nat) (x5 x6 x7 x11 : Value) : List KB := [⟨b0, true, 65, (aggArr x5)⟩, ⟨b1, true, 49, (aggArr x6)⟩, ⟨b2, true, 62, (aggArr x7)⟩, ⟨b3, true, 62, (aggArr x11)⟩]
theorem vc111 (X : Ctx) (β : Nat → Nat) (x0 x1 x2 x3 : Value) : (run Tryz.prog ann111 111 [.x (.v 0), .x (.v 1), .x (.v 2), .x (.v 3)] [] [] 5).den X (env0 [x0, x1, x2, x3] X.w0) 5 β 0 (fun _ _ _ => False) = (
 Ask (rAgg 81 x0) fun x5 =>
 AskNew X.w0 fun b0 =>
 Ask (rAgg 4 x1) fun x6 =>
 AskNew X.w0 fun b1 =>
 Ask (rAgg 26 (.agg #[(J 0), (J 0), (J 0), (J 0), (J 0), (J 0), (J 0), (J 0), (J 0), (J 0), (J 0), (J 0), (J 0), (J 0), (J 0), (J 0), (J 0), (J 0), (J 0), (J 0), (J 0), (U 0), (U 0), (U 0), (U 0), (.slice none 0 0)])) fun x7 =>
 AskNew X.w0 fun b2 =>
 Ask (rSel (aggArr x5) 27 26 true) fun x8 =>
 AskF X 131 [x8, x6] fun x9 =>
 Ask (rAgg 26 (.agg #[(J 0), (J 0), (J 0), (J 0), (J 0), (J 0), (J 0), (J 0), (J 0), (J 0), (J 0), (J 0), (J 0), (J 0), (J 0), (J 0), (J 0), (J 0), (J 0), (J 0), (J 0), (U 0), (U 0), (U 0), (U 0), (.slice none 0 0)])) fun _ =>
 AskNew X.w0 fun b3 =>
 Ask (rAgg 26 x9) fun x11 =>
 ∃ (I0 : List Value → World → Prop) (μ0 : List Value → World → Nat), (∀ w, KnownV X X.w0 [b3] (kb111_0 b0 b1 b2 b3 x5 x6 x7 x11) w → I0 [(J 0), x11] w) ∧ ∀ x12 x13 w14, I0 [x12, x13] w14 →
 Ask (rLen X.P 50 x2) fun x15 =>
 Ask (rBin X.P .lss 3 false false x12 x15) fun x16 =>
 (∃ t, x16 = .bool t) ∧ (x16 = .bool true →
 Ask (rSel (aggArr x5) 79 1 false) fun x17 =>
 Ask (rIad X.P 63 x17 x12) fun x18 =>
 Ask (rLoad X w14 [] 62 x18) fun x19 =>
 Ask (rIad X.P 50 x2 x12) fun x20 =>
 Ask (rLoad X w14 [] 49 x20) fun x21 =>
 AskF X 131 [x19, x21] fun x22 =>
 AskF X 132 [x13, x22] fun x23 =>
 Ask (rSel (aggArr x5) 80 1 false) fun x24 =>
 Ask (rIad X.P 63 x24 x12) fun x25 =>
 Ask (rLoad X w14 [] 62 x25) fun x26 =>
 Ask (rIad X.P 50 x3 x12) fun x27 =>
 Ask (rLoad X w14 [] 49 x27) fun x28 =>
 AskF X 131 [x26, x28] fun x29 =>
 AskF X 132 [x23, x29] fun x30 =>
 Ask (rAgg 26 x30) fun x31 =>
 Ask (rBin X.P .add 3 false true x12 (J 1)) fun x32 =>
 Again X w14 [b3] [] fun w => I0 [x32, x31] w ∧ μ0 [x32, x31] w < μ0 [x12, x13] w14) ∧ (x16 = .bool false →
 Ask (rAgg 26 x13) fun x17 =>
 Ret X w14 [b2] [] x17)) := by kernel_rfl
/-- Steps of a sum of vectors. -/
def vecF (G H l r : List F) (i : Nat) : F := G.getD i 0 * l.getD i 0 + H.getD i 0 * r.getD i 0
def cRVe : Contract := fnW (Cods.cons cRSetF (Cods.cons cS (Cods.cons cLF (Cods.cons cLF Cods.nil)))) (fun p _ => p.2.2.1.length ≤ p.1.2.2.2.1.length ∧ p.2.2.1.length ≤ p.1.2.2.2.2.length ∧ p.2.2.1.length ≤ p.2.2.2.1.length)
  (fun p _ v _ => v = EF (p.1.2.1 * rF p.2.1 + sumF' (vecF p.1.2.2.2.1 p.1.2.2.2.2 p.2.2.1 p.2.2.2.1) p.2.2.1.length))
theorem keepsRVe : Keeps1 Tryz.prog GT 111 cRVe := by
  refine keepsW (T := Tse) (A := ann111) hMix keepTse hGT (calls_of (by kernel_rfl)) (callsW_of (by kernel_rfl)) fun args ⟨p, a, l, r, _⟩ w0 hrd hpre hg => ?_
  obtain ⟨_, _, rfl, ⟨g, h, rfl, hg, hh⟩, _, _, rfl, ⟨rfl, ha⟩, x, _, rfl, hl, y, _, rfl, hr, rfl⟩ := hrd
  dsimp only at ha hpre
  replace hg : LsEF w0 g p.2.2.2.1 := hg
  replace hh : LsEF w0 h p.2.2.2.2 := hh
  replace hl : LsF w0 x l := hl
  replace hr : LsF w0 y r := hr
  obtain ⟨p1, p2, p3⟩ := hpre
  refine ⟨[.x (.v 0), .x (.v 1), .x (.v 2), .x (.v 3)], [], [], 5, env0 [.agg (rsetL p g h).toArray, S a, x, y] w0, fun b => b, 0, rfl, rfl, fun X hX => mem_none hX rfl, fun X hP hS hw hX hR => ?_⟩
  subst hw; try dsimp only at hR
  rw [vc111 X]
  have hmx : l.length ≤ maxLen := by
    rcases hl.1 with ⟨_, hn, _⟩ | ⟨_, _, _, _, hn, _⟩
    · omega
    · exact Nat.le_trans hn.1 hn.2
  unfold maxLen at hmx
  refine a_agg (rsetL_len _ _ _) (rsetL_one (slAt_one hg.1) (slAt_one hh.1)) ?_
  intro _ _
  rw [ask_aggS]; intro _ _
  rw [ask_zE]; intro _ _
  refine a_setBl ?_
  refine c_Times hS _ ha ?_
  rw [ask_zE]; intro _ _
  rw [ask_aggEF]
  refine ⟨fun q w => ∃ i, q = [J i, EF (p.2.1 * rF a + sumF' (vecF p.2.2.2.1 p.2.2.2.2 l r) i)] ∧ i ≤ l.length ∧ Kn X w, fun q _ => match q with | i :: _ => l.length - intNat i | _ => 0, fun w hw => ⟨0, ?_, Nat.zero_le _, hw.kn⟩, ?_⟩
  · have : p.2.1 * rF a + sumF' (vecF p.2.2.2.1 p.2.2.2.2 l r) 0 = p.2.1 * rF a := by rw [sumF']; grind
    rw [this]
  rintro _ _ w ⟨i, he, hi, hk⟩
  simp only [List.cons.injEq, and_true] at he
  obtain ⟨rfl, rfl⟩ := he
  refine a_len hP tyRI hl.1 ?_
  rw [ask_lssN]
  refine a_ifD (fun hlt => ?_) fun hge => ?_
  · have s0 := hk.stp0 hX
    refine a_setG ?_
    refine ld_EF hP hk (hg.1.stp0 s0) rfl (by omega) (fun _ _ => List.not_mem_nil) ?_
    refine ld_RF hP hk (hl.1.stp0 s0) rfl hlt (fun _ _ => List.not_mem_nil) ?_
    refine c_Times hS _ (val_lt _) ?_
    refine c_EAdd hS _ _ ?_
    refine a_setH ?_
    refine ld_EF hP hk (hh.1.stp0 s0) rfl (by omega) (fun _ _ => List.not_mem_nil) ?_
    refine ld_RF hP hk (hr.1.stp0 s0) rfl (by omega) (fun _ _ => List.not_mem_nil) ?_
    refine c_Times hS _ (val_lt _) ?_
    refine c_EAdd hS _ _ ?_
    rw [ask_aggEF, ask_succ (by omega), rF_val, rF_val]
    intro w2 hw2
    refine ⟨⟨i + 1, ?_, hlt, hw2.kn⟩, by simp [intNat]; omega⟩
    have : p.2.1 * rF a + sumF' (vecF p.2.2.2.1 p.2.2.2.2 l r) i + p.2.2.2.1.getD i 0 * l.getD i 0 + p.2.2.2.2.getD i 0 * r.getD i 0 = p.2.1 * rF a + sumF' (vecF p.2.2.2.1 p.2.2.2.2 l r) (i + 1) := by
      rw [sumF', vecF]; grind
    rw [this]
  · obtain rfl : i = l.length := by omega
    rw [ask_aggEF]
    exact hR _ _ _ _ fun _ _ => rfl
/-! ### openings, bits -/
/-- A value and its blinding. -/
def encO (p : Nat × Nat) : List Value := U p.1 :: encS p.2
def okO (p : Nat × Nat) : Prop := p.1 < B64 ∧ p.2 < W256
theorem encO_len (p : Nat × Nat) : (encO p).length = 5 := rfl
theorem encO_inj (a b : Nat × Nat) (ha : okO a) (hb : okO b) (h : encO a = encO b) : a = b := by
  simp only [encO, List.cons.injEq] at h
  exact Prod.ext (U_inj' h.1) (encS_inj ha.2 hb.2 h.2)
theorem one_encO (p : Nat × Nat) : (encO p).all (·.oneCell') = true := by simp [encO, encS, U, Value.oneCell']
def cLO : Cod (List (Nat × Nat)) := cL encO okO 5 encO_len (fun a b ha hb h => encO_inj a b ha hb h)
theorem cLO_stable : cLO.Stable := cL_stable
abbrev LsO := Ls encO okO
def vAt (l : List (Nat × Nat)) (j : Nat) : Nat := (l.getD j (0, 0)).1
def bAt (l : List (Nat × Nat)) (j : Nat) : Nat := (l.getD j (0, 0)).2
theorem okO_at {w : World} {v : Value} {l : List (Nat × Nat)} (h : LsO w v l) (j : Nat) : okO (l.getD j (0, 0)) := by
  rw [List.getD_eq_getElem?_getD]
  cases hj : l[j]? with
  | none => exact ⟨show 0 < B64 by decide, show 0 < W256 by decide⟩
  | some x => exact h.2 x (List.mem_of_getElem? hj)
/-- Bit i of all values. -/
def bitN (l : List (Nat × Nat)) (m i : Nat) : Nat := vAt l (i / m) / 2 ^ (i % m) % 2
theorem bitN_lt (l : List (Nat × Nat)) (m i : Nat) : bitN l m i < 2 := Nat.mod_lt _ (by decide)
def bitF (l : List (Nat × Nat)) (m i : Nat) : F := rF (bitN l m i)
theorem bitF_S (l : List (Nat × Nat)) (m i : Nat) : S (bitN l m i) = S (bitF l m i).val := by
  rw [bitF, val_of_lt (Nat.lt_trans (bitN_lt l m i) (by decide))]
section
variable {X : Ctx} {u : World} {v : Value} {n i : Nat} {ow : List Nat} {K : Value → Prop} {l : List (Nat × Nat)}
theorem fdOV : FdTy Tryz.prog 131 0 0 := ⟨0, by kernel_rfl⟩
theorem fdOB : FdTy Tryz.prog 131 1 1 := ⟨3, by kernel_rfl⟩
theorem tyOR : ElTy Tryz.prog 67 131 5 40 (.agg #[U 0, U 0, U 0, U 0, U 0]) := ⟨by kernel_rfl, by kernel_rfl⟩
theorem aggU64 : agg? Tryz.prog 22 = some false := by kernel_rfl
theorem getD_O (hi : i < l.length) : l.getD i (0, 0) = l[i] := by rw [List.getD_eq_getElem?_getD, List.getElem?_eq_getElem hi]; rfl
/-- The value of opening i. -/
theorem ld_OV (hP : X.P = Tryz.prog) (hk : Kn X u) (h : SlAt u v n (l.flatMap encO)) (hn : l.length = n) (hi : i < l.length) (how : ∀ b, v.ownBlock = some b → b ∉ ow)
    (hK : K (U (vAt l i))) : Ask (rIad X.P 67 v (J i)) fun p => Ask (rFad X.P 131 p 0) fun q => Ask (rLoad X u ow 22 q) K := by
  refine a_iadN hP tyOR h (by omega) ?_
  refine a_fad h (by omega) hP fdOV ?_
  refine a_load_one hk h (by rw [hP]; exact aggU64) how (flat_at encO_len l i _ (List.getElem?_eq_getElem hi) 0 (U l[i].1) rfl) ?_
  rw [← getD_O hi]; exact hK
theorem ld_OB (hP : X.P = Tryz.prog) (hk : Kn X u) (h : SlAt u v n (l.flatMap encO)) (hn : l.length = n) (hi : i < l.length) (how : ∀ b, v.ownBlock = some b → b ∉ ow)
    (hK : K (S (bAt l i))) : Ask (rIad X.P 67 v (J i)) fun p => Ask (rFad X.P 131 p 1) fun q => Ask (rLoad X u ow 49 q) K := by
  refine a_iadN hP tyOR h (by omega) ?_
  refine a_fad h (by omega) hP fdOB ?_
  refine a_load_agg (cs := encS l[i].2) hk h (by rw [hP]; exact aggRI) (by rw [hP]; exact szRI) how (by simp [encS]) (fun j c hj => ?_) ?_
  · have := flat_at encO_len l i _ (List.getElem?_eq_getElem hi) (j + 1) c (by simpa [encO] using hj)
    rw [Nat.add_assoc, Nat.add_comm 1 j]; exact this
  · rw [← getD_O hi]; exact hK
end
def ann104 : Ann := ⟨[], [57], 70, [], [6], none, [], []⟩
theorem vc104 (X : Ctx) (β : Nat → Nat) (x0 x1 x2 x3 : Value) : (run Tryz.prog ann104 104 [.l [.v 0, .v 1], .x (.v 2), .x (.v 3)] [] [] 5).den X (env0 [x0, x1, x2, x3] X.w0) 5 β 0 (fun _ _ _ => False) = (
 AskNew X.w0 fun _ =>
 Ask (rAgg 4 (.agg #[(U 0), (U 0), (U 0), (U 0)])) fun _ =>
 AskNew X.w0 fun b1 =>
 Ask (rBin X.P .quo 3 false false x3 x0) fun x6 =>
 Ask (rIad X.P 67 x2 x6) fun x7 =>
 Ask (rFad X.P 131 x7 0) fun x8 =>
 Ask (rLoad X X.w0 [] 22 x8) fun x9 =>
 Ask (rBin X.P .rem 3 false false x3 x0) fun x10 =>
 Ask (rBin X.P .shr 22 false false x9 x10) fun x11 =>
 Ask (rBin X.P .and 22 false true x11 (U 1)) fun x12 =>
 AskF X 57 [x12] fun x13 =>
 Ask (rAgg 4 x13) fun x14 =>
 Ret X X.w0 [b1] [] x14) := by kernel_rfl
/-- Params as they come: bits, values. -/
def cPn : Cod (Nat × Nat) := ⟨fun _ v p => v = Pv p.1 p.2, fun _ _ a b h k => by
  obtain ⟨h1, h2⟩ := Pv_inj (h.symm.trans k)
  exact Prod.ext (by omega) (by omega)⟩
def cJn' : Cod Nat := ⟨fun _ v n => v = J n, fun _ _ _ _ h k => J_injI (h.symm.trans k)⟩
def cRBit : Contract := fnW (Cods.cons cPn (Cods.cons cLO (Cods.cons cJn' Cods.nil))) (fun p _ => 0 < p.1.1 ∧ p.1.1 ≤ 64 ∧ p.2.2.1 / p.1.1 < p.2.1.length ∧ p.2.2.1 < 2 ^ 62) (fun p _ v _ => v = S (bitF p.2.1 p.1.1 p.2.2.1).val)
theorem keepsRBit : Keeps1 Tryz.prog GT 104 cRBit := by
  refine keepsW (T := Tpo) (A := ann104) hMix keepTpo hGT (calls_of (by kernel_rfl)) (callsW_of (by kernel_rfl)) fun args ⟨⟨m, n⟩, l, i, _⟩ w0 hrd hpre _ => ?_
  obtain ⟨_, _, rfl, rfl, v, _, rfl, hl, _, _, rfl, rfl, rfl⟩ := hrd
  obtain ⟨h1, h2, h3, h4⟩ := hpre
  dsimp only at h1 h2 h3 h4
  replace hl : LsO w0 v l := hl
  refine ⟨[.l [.v 0, .v 1], .x (.v 2), .x (.v 3)], [], [], 5, env0 [J m, J n, v, J i] w0, fun b => b, 0, rfl, rfl, fun X hX => mem_none hX rfl, fun X hP hS hw hX hR => ?_⟩
  subst hw; try dsimp only at hR
  rw [vc104 X]
  intro _ _
  rw [ask_zero4]; intro _ _
  rw [ask_quoN h1 (by omega)]
  refine ld_OV hP (kn0 X) hl.1 rfl h3 (fun _ _ => List.not_mem_nil) ?_
  have hr : i % m < 64 := by have := Nat.mod_lt i h1; omega
  have ho : vAt l (i / m) < B64 := (okO_at hl (i / m)).1
  rw [ask_remN h1, ask_ushr (kd := .i64) hr, ask_umask (k := 1) (Nat.lt_of_le_of_lt (Nat.div_le_self _ _) ho) rfl (by decide)]
  refine call_PE hS (T := Tpo) (f := 57) rfl (bitN l m i) (Nat.lt_trans (bitN_lt l m i) (by decide)) ?_
  rw [ask_aggS]
  exact hR _ _ _ _ fun _ _ => bitF_S l m i
end Go.Vc
