/-
  GensBases: the sets on both sides, the look at them, the law.
-/
import Derived.Test.YtpfidanjeacihaaGreatDoorDBas2
namespace Go.Vc
open Go Go.Proofs Go.RowKit

/-- An element over the lists. -/
def encEL (v : Value) : List Value := [J 3, J 0, J 0, J 0, J 0, J 0, J 0, J 0, J 0, J 0, J 0, J 0, J 0, J 0, J 0, J 0, J 0, J 0, J 0, J 0, J 0, U 0, U 0, U 0, U 0, v]
theorem encEL_len (v : Value) : (encEL v).length = 26 := rfl
def EL (v : Value) : Value := .agg (encEL v).toArray
theorem one_encEL {v : Value} (h : v.oneCell' = true) : (encEL v).all (·.oneCell') = true := by
  simp only [encEL, List.all_cons, List.all_nil, h, Bool.and_true]
  rfl
theorem tyR : ElTy Tryz.prog 38 37 4 32 (.agg #[U 0, U 0, U 0, U 0]) := ⟨by kernel_rfl, by kernel_rfl⟩
/-- A load of element i of a list of the document's scalars. -/
theorem ld_R {X : Ctx} {u : World} {v : Value} {xs : List Value} {l : List Nat} {n i : Nat} {ow : List Nat} {K : Value → Prop} (hP : X.P = Tryz.prog) (hk : Kn X u) (h : SlAt u v n xs) (hx : xs = l.flatMap encS) (hn : l.length = n) (hi : i < l.length) (how : ∀ b, v.ownBlock = some b → b ∉ ow)
    (hK : K (S l[i])) : Ask (rIad X.P 38 v (J i)) fun p => Ask (rLoad X u ow 37 p) K := by
  subst hx
  refine a_iadN hP tyR h (by omega) ?_
  refine a_load_agg (cs := encS l[i]) hk h (by rw [hP]; exact aggR) (by rw [hP]; exact szR) how (by simp [encS]) (flat_at encS_len l i _ (List.getElem?_eq_getElem hi)) ?_
  exact hK

/-! ### the program's set -/
def cBasis : Contract := fnW (Cods.cons cI Cods.nil) (fun _ _ => True) (fun p w v w' => ((p.1 < 0 ∨ 64 < p.1) → v = .tuple #[.agg #[.slice none 0 0, .slice none 0 0, .slice none 0 0, .slice none 0 0, .slice none 0 0], J 1]) ∧
  (∀ n : Nat, p.1 = n → n ≤ 64 → ∃ x y z g h vs us, v = .tuple #[.agg #[x, y, z, g, h], J 0] ∧ SlAt w' g n vs ∧ SlAt w' h n us ∧ FSet 25 w.heap.size w' n x y z g h vs us))
theorem ask_makeFunc {P : Program} {K : Value → Prop} {f a ty : Nat} {p : Value} : Ask (rGen P (.makeFunc (.func f) #[] #[.tmp a]) ty [(a, p)]) K = K (.func (.func f) #[] #[p]) :=
  ask_eq (runsN_iff fun w => by simp [execOp, Instr.makeFunc, argsFn])
/-! ### the document's set -/
def ann6 : Ann := ⟨[(2, ([3], [])), (6, ([4, 5], []))], [36], 70, [], [], none, [], []⟩
def kb6_0 (b0 : Nat) : List KB := [⟨b0, true, 40, #[(J 0), (J 0), (J 0), (J 0), (J 0), (J 0), (J 0), (J 0), (J 0), (J 0), (J 0), (J 0), (J 0), (J 0), (J 0), (J 0), (J 0), (J 0), (J 0), (J 0), (J 0), (U 0), (U 0), (U 0), (U 0), (.slice none 0 0)]⟩]
theorem vc6 (X : Ctx) (β : Nat → Nat) (x0 : Value) : (run Tryz.prog ann6 6 [.x (.v 0)] [] [] 2).den X (env0 [x0] X.w0) 2 β 0 (fun _ _ _ => False) = (
  AskNew X.w0 fun b0 =>
  Ask (rLen X.P 38 x0) fun x2 =>
  ∃ (I0 : List Value → World → Prop) (μ0 : List Value → World → Nat), (∀ w, KnownV X X.w0 [] (kb6_0 b0) w → I0 [x2] w) ∧ ∀ x3 w4, I0 [x3] w4 →
    Ask (rBin X.P .gtr 3 false true x3 (J 0)) fun x5 =>
    AskG [(x5, true)] (rBin X.P .sub 3 false true x3 (J 1)) fun x6 =>
    AskG [(x5, true)] (rIad X.P 38 x0 x6) fun x7 =>
    AskG [(x5, true)] (rLoad X w4 [] 37 x7) fun x8 =>
    AskGF X [(x5, true)] 36 [x8] fun x9 =>
    Ask (rPick x5 x9 (.bool false)) fun x10 =>
    (∃ t, x10 = .bool t) ∧ (x10 = .bool true →
      Ask (rBin X.P .sub 3 false true x3 (J 1)) fun x11 =>
      Again X w4 [] [] fun w => I0 [x11] w ∧ μ0 [x11] w < μ0 [x3] w4) ∧ (x10 = .bool false →
      ∃ (I0 : List Value → World → Prop) (μ0 : List Value → World → Nat), (∀ w, KnownV X w4 [] (kb6_0 b0) w → I0 [(.slice none 0 0), (J 0)] w) ∧ ∀ x11 x12 w13, I0 [x11, x12] w13 →
        Ask (rBin X.P .lss 3 false false x12 x3) fun x14 =>
        (∃ t, x14 = .bool t) ∧ (x14 = .bool true →
          Ask (rIad X.P 38 x0 x12) fun x15 =>
          Ask (rLoad X w13 [] 37 x15) fun x16 =>
          AskO X w13 [] (kb6_0 b0) false (Go.Op.buildSlice 38 1 #[(0, Go.Operand.tmp 29)]) 38 [(29, x16)] fun x17 w17 =>
          AskO X w17 [] (kb6_0 b0) true (appOp (.tmp 25) (.tmp 30) 38) 38 [(25, x11), (30, x17)] fun x18 w18 =>
          Ask (rBin X.P .add 3 false true x12 (J 1)) fun x19 =>
          Again X w18 [] [] fun w => I0 [x18, x19] w ∧ μ0 [x18, x19] w < μ0 [x11, x12] w13) ∧ (x14 = .bool false →
          Ask (rPlain x11) fun x15 =>
          Ask (rPlain x15) fun x16 =>
          Ret X w13 [b0] [] (.agg #[(J 3), (J 0), (J 0), (J 0), (J 0), (J 0), (J 0), (J 0), (J 0), (J 0), (J 0), (J 0), (J 0), (J 0), (J 0), (J 0), (J 0), (J 0), (J 0), (J 0), (J 0), (U 0), (U 0), (U 0), (U 0), x16])))) := by kernel_rfl
/-- The list, without zeros at its end. -/
def trim (l : List Nat) : List Nat := (l.reverse.dropWhile (· == 0)).reverse
def cFreeOf : Contract := fnW (Cods.cons cLS Cods.nil) (fun p _ => p.1.length ≤ mx) (fun p w v w' => ∃ x, v = EL x ∧ w'.ownsRow w.heap.size 37 4 x (trim p.1).length ((trim p.1).flatMap encS))
def Tfo : Table := T0.add 36 cRIsZ
theorem keepTfo : AllKeep Tryz.prog GT Tfo := keepT0.add keepsRIsZ
theorem trim_step {l : List Nat} {k : Nat} (hk : k < l.length) (h0 : l[k] = 0) : trim (l.take (k + 1)) = trim (l.take k) := by
  rw [List.take_succ_eq_append_getElem hk, h0]
  generalize l.take k = r
  simp [trim]
theorem trim_last {l : List Nat} {k : Nat} (hk : k < l.length) (h0 : l[k] ≠ 0) : trim (l.take (k + 1)) = l.take (k + 1) := by
  rw [List.take_succ_eq_append_getElem hk]
  generalize l.take k = r
  generalize l[k] = a at h0
  simp [trim, h0]
theorem keepsFreeOf : Keeps1 Tryz.prog GT 6 cFreeOf := by
  refine keepsW (T := Tfo) (A := ann6) hMix keepTfo hGT (calls_of (by kernel_rfl)) (callsW_of (by kernel_rfl)) fun args ⟨l, _⟩ w0 hrd hpre _ => ?_
  obtain ⟨x, _, rfl, hl, rfl⟩ := hrd
  dsimp only at hl hpre
  refine ⟨[.x (.v 0)], [], [], 2, env0 [x] w0, fun b => b, 0, rfl, rfl, fun X hX => mem_none hX rfl, fun X hP hS hw hX hR => ?_⟩
  subst hw; try dsimp only at hR
  rw [vc6 X]
  replace hl : Ls encS okS X.w0 x l := hl
  intro b0 hb0
  refine a_len hP tyR hl.1 ?_
  refine ⟨fun a w => ∃ k, a = [J k] ∧ k ≤ l.length ∧ trim (l.take k) = trim l ∧ b0 < w.heap.size ∧ Kn X w, fun a _ => match a with | [i] => intNat i | _ => 0, fun w hw => ⟨l.length, rfl, Nat.le_refl _, by rw [List.take_of_length_le (Nat.le_refl _)], hw.low (by simp [kb6_0]), hw.kn⟩, ?_⟩
  rintro _ w ⟨k, he, hk, ht, hbw, hkn⟩
  simp only [List.cons.injEq, and_true] at he
  subst he
  rw [ask_gtrN]
  have fin : trim l = l.take k → ∀ w, b0 < w.heap.size → Kn X w → ∃ (I0 : List Value → World → Prop) (μ0 : List Value → World → Nat), (∀ w2, KnownV X w [] (kb6_0 b0) w2 → I0 [(.slice none 0 0), (J 0)] w2) ∧ ∀ x11 x12 w13, I0 [x11, x12] w13 →
        Ask (rBin X.P .lss 3 false false x12 (J k)) fun x14 =>
        (∃ t, x14 = .bool t) ∧ (x14 = .bool true →
          Ask (rIad X.P 38 x x12) fun x15 =>
          Ask (rLoad X w13 [] 37 x15) fun x16 =>
          AskO X w13 [] (kb6_0 b0) false (Go.Op.buildSlice 38 1 #[(0, Go.Operand.tmp 29)]) 38 [(29, x16)] fun x17 w17 =>
          AskO X w17 [] (kb6_0 b0) true (appOp (.tmp 25) (.tmp 30) 38) 38 [(25, x11), (30, x17)] fun x18 w18 =>
          Ask (rBin X.P .add 3 false true x12 (J 1)) fun x19 =>
          Again X w18 [] [] fun w => I0 [x18, x19] w ∧ μ0 [x18, x19] w < μ0 [x11, x12] w13) ∧ (x14 = .bool false →
          Ask (rPlain x11) fun x15 =>
          Ask (rPlain x15) fun x16 =>
          Ret X w13 [b0] [] (.agg #[(J 3), (J 0), (J 0), (J 0), (J 0), (J 0), (J 0), (J 0), (J 0), (J 0), (J 0), (J 0), (J 0), (J 0), (J 0), (J 0), (J 0), (J 0), (J 0), (J 0), (J 0), (U 0), (U 0), (U 0), (U 0), x16])) := fun htk w hbw hkn => by
    refine ⟨fun a w => ∃ (j B : Nat) (o : Value), a = [o, J j] ∧ j ≤ k ∧ b0 < B ∧ X.w0.heap.size ≤ B ∧ B ≤ w.heap.size ∧ w.ownsRow B 37 4 o j ((l.take j).flatMap encS) ∧ Kn X w, fun a _ => match a with | [_, i] => k - intNat i | _ => 0,
      fun w2 hw2 => ⟨0, w2.heap.size, _, rfl, Nat.zero_le _, by have := hw2.size; omega, hw2.sz0, Nat.le_refl _, World.ownsRow_nil _ _ _ _, hw2.kn⟩, ?_⟩
    rintro o _ w2 ⟨j, B, _, he, hj, hB, hB0, hBw, ho, hkn2⟩
    simp only [List.cons.injEq, and_true] at he
    obtain ⟨rfl, rfl⟩ := he
    rw [ask_lssN]
    refine a_ifD (fun hlt => ?_) fun hge => ?_
    · refine ld_R hP hkn2 (hl.1.stp0 (hkn2.stp0 hX)) rfl rfl (by omega) (fun _ _ => List.not_mem_nil) ?_
      refine a_push (encS l[j]).toArray hX hP tyR rfl rfl (by decide) (by decide) (by decide) (by kernel_rfl) rfl (one_encS' _) rfl hB0 hBw ho (by simp only [maxLen, mx] at *; omega) (by simp only [mx] at *; omega) fun o' w' k' s' ho' _ => ?_
      rw [ask_succ (by simp only [mx] at *; omega)]
      intro w3 hw3
      refine ⟨⟨j + 1, B, o', rfl, hlt, hB, hB0, Nat.le_trans hBw (Nat.le_trans s'.size hw3.size), ?_, hw3.kn⟩, by simp [intNat]; omega⟩
      rw [flat_take l j (by omega)]
      exact own_stp0 ho' hw3.stp
    · obtain rfl : j = k := by omega
      refine a_plain (own_one ho) ?_
      refine a_plain (own_one ho) ?_
      refine hR _ _ _ _ fun w3 hw3 => ⟨o, rfl, ?_⟩
      rw [htk, List.length_take, Nat.min_eq_left hk]
      exact own_mono (own_stp ho hw3.stp (off_own ho (all1 hB))) hB0
  by_cases hk0 : 0 < k
  · rw [decide_eq_true hk0]
    refine a_G_on condsV1 ?_
    rw [ask_subN (by omega) (by simp only [mx] at *; omega)]
    have hk1 : k - 1 < l.length := by omega
    have hl' := hl.1.stp0 (hkn.stp0 hX)
    refine a_G_on condsV1 (a_iadN hP tyR hl' hk1 ?_)
    refine a_G_on condsV1 (a_load_agg (cs := encS l[k - 1]) hkn hl' (by rw [hP]; exact aggR) (by rw [hP]; exact szR) (fun _ _ => List.not_mem_nil) (by simp [encS]) (flat_at encS_len l (k - 1) _ (List.getElem?_eq_getElem hk1)) ?_)
    refine a_GF_on condsV1 (call_PE hS (T := Tfo) (f := 36) rfl l[k - 1] (hl.2 _ (List.getElem_mem _)) ?_)
    rw [ask_pickT]
    refine a_ifD (fun h0 => ?_) fun h0 => ?_
    · rw [ask_subN (by omega) (by simp only [mx] at *; omega)]
      intro w2 hw2
      refine ⟨⟨k - 1, rfl, by omega, ?_, Nat.lt_of_lt_of_le hbw hw2.size, hw2.kn⟩, by simp [intNat]; omega⟩
      rw [← trim_step hk1 h0, show k - 1 + 1 = k by omega]
      exact ht
    · refine fin ?_ w hbw hkn
      rw [← ht]
      have := trim_last hk1 h0
      rwa [show k - 1 + 1 = k by omega] at this
  · obtain rfl : k = 0 := by omega
    rw [decide_eq_false (by omega)]
    iterate 3 refine a_G_off (condsV1_not (by decide)) fun _ => ?_
    refine a_GF_off (condsV1_not (by decide)) fun _ => ?_
    rw [ask_pickF]
    refine a_if (fun h => by cases h) fun _ => ?_
    exact fin (by rw [← ht]; rfl) w hbw hkn

def cJ : Cod Nat := ⟨fun _ v n => v = J n, fun _ _ _ _ h k => J_inj (h.symm.trans k)⟩
theorem trim_unit (k : Nat) : trim (unitL k) = unitL k := by simp [trim, unitL]
def cUnit : Contract := fnW (Cods.cons cJ Cods.nil) (fun p _ => p.1 ≤ 200) (fun p w v w' => ∃ x, v = EL x ∧ Uw 37 w.heap.size w' x p.1)
def Tun : Table := (T0.add 49 cRInt).add 6 cFreeOf
theorem keepTun : AllKeep Tryz.prog GT Tun := (keepT0.add keepsRInt).add keepsFreeOf
/-- The document's set over the lists. -/
def RF (x y z g h : Value) : Value := .agg ([J 3] ++ encEL x ++ encEL y ++ encEL z ++ [g, h]).toArray
def zRF : Value := .agg ([J 0] ++ zE ++ zE ++ zE ++ [Value.slice none 0 0, Value.slice none 0 0]).toArray
theorem oneJ3 : (J 3).oneCell' = true := rfl
section
variable {K : Value → Prop} {x y z g h u : Value}
theorem one_cells (hx : x.oneCell' = true) : x.cells = #[x] := by cases x <;> first | rfl | cases hx
theorem ask_updFG (hx : u.oneCell' = true) : Ask (rUpd (aggArr (RF x y z g h)) 79 1 u) K = K (RF x y z u h) := by
  refine ask_eq fun v => ?_
  have hc := one_cells hx
  have e : RF x y z u h = .agg (splice (aggArr (RF x y z g h)) 79 u.cells.toList) := by rw [hc]; rfl
  unfold rUpd
  rw [e]
  exact ⟨fun h => h.2.2.2, fun h => ⟨by show 79 + 1 ≤ 81; omega, by rw [hc]; rfl, by rw [hc]; simp [hx], h⟩⟩
theorem ask_updFH (hx : u.oneCell' = true) : Ask (rUpd (aggArr (RF x y z g h)) 80 1 u) K = K (RF x y z g u) := by
  refine ask_eq fun v => ?_
  have hc := one_cells hx
  have e : RF x y z g u = .agg (splice (aggArr (RF x y z g h)) 80 u.cells.toList) := by rw [hc]; rfl
  unfold rUpd
  rw [e]
  exact ⟨fun h => h.2.2.2, fun h => ⟨by show 80 + 1 ≤ 81; omega, by rw [hc]; rfl, by rw [hc]; simp [hx], h⟩⟩
theorem ask_aggRF (hx : x.oneCell' = true) (hy : y.oneCell' = true) (hz : z.oneCell' = true) (hg : g.oneCell' = true) (hh : h.oneCell' = true) : Ask (rAgg 81 (RF x y z g h)) K = K (RF x y z g h) :=
  ask_agg rfl (by simp only [List.all_toArray, List.all_append, List.all_cons, List.all_nil, one_encEL hx, one_encEL hy, one_encEL hz, hg, hh, oneJ3, Bool.and_true])
end
def cRBasis : Contract := fnW (Cods.cons cI Cods.nil) (fun _ _ => True) (fun p w v w' => ((p.1 < 0 ∨ 64 < p.1) → v = .tuple #[zRF, J 1]) ∧
  (∀ n : Nat, p.1 = n → n ≤ 64 → ∃ x y z g h vs us, v = .tuple #[RF x y z g h, J 0] ∧ SlAt w' g n (vs.flatMap encEL) ∧ SlAt w' h n (us.flatMap encEL) ∧ FSet 37 w.heap.size w' n x y z g h vs us))
end Go.Vc
