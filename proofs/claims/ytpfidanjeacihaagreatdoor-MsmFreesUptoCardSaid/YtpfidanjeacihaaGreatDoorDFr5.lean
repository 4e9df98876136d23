/-
  Lists over the document's scalars: place, E.Times, E.Neg, E.Add, E.Double, of the kind Lists.
-/
import Derived.Test.YtpfidanjeacihaaGreatDoorDFr4
import Derived.Test.YtpfidanjeacihaaGreatDoorDRm2
namespace Go.Vc
open Go Go.Proofs Go.RowKit

theorem EL_inj {x y : Value} (h : EL x = EL y) : x = y := by
  unfold EL at h
  simpa [encEL] using h
def Tre (lo : Nat) (w : World) (v : Value) (l : List Nat) : Prop := ∃ x, v = EL x ∧ w.ownsRow lo 37 4 x (trim l).length ((trim l).flatMap encS)
def cEl : Cods (List Nat) := ⟨fun w l a => ∃ x, l = [EL x] ∧ cLS.rd w x a, fun w l a a' ⟨x, e, h⟩ ⟨x', e', h'⟩ => by
  rw [e] at e'
  simp only [List.cons.injEq, and_true] at e'
  obtain rfl := EL_inj e'
  exact cLS.inj _ _ _ _ h h'⟩
def cElS : Cods (List Nat × Nat) := ⟨fun w l p => ∃ x, l = [EL x, S p.2] ∧ cLS.rd w x p.1 ∧ okS p.2, fun w l ⟨a, k⟩ ⟨a', k'⟩ ⟨x, e, h, o⟩ ⟨x', e', h', o'⟩ => by
  dsimp only at e h o e' h' o'
  rw [e] at e'
  simp only [List.cons.injEq, and_true] at e'
  obtain rfl := EL_inj e'.1
  rw [cLS.inj _ _ _ _ h h', S_inj o o' e'.2]⟩
def cEl2 : Cods (List Nat × List Nat) := ⟨fun w l p => ∃ x y, l = [EL x, EL y] ∧ cLS.rd w x p.1 ∧ cLS.rd w y p.2, fun w l ⟨a, b⟩ ⟨a', b'⟩ ⟨x, y, e, h, k⟩ ⟨x', y', e', h', k'⟩ => by
  dsimp only at e h k e' h' k'
  rw [e] at e'
  simp only [List.cons.injEq, and_true] at e'
  obtain rfl := EL_inj e'.1
  obtain rfl := EL_inj e'.2
  rw [cLS.inj _ _ _ _ h h', cLS.inj _ _ _ _ k k']⟩

/-! ### place -/
def cPlR : Cods (List Nat × Nat) := ⟨fun w l p => ∃ x, l = [x, J p.2] ∧ cLS.rd w x p.1, fun w l ⟨a, k⟩ ⟨a', k'⟩ ⟨x, e, h⟩ ⟨x', e', h'⟩ => by
  dsimp only at e h e' h'
  rw [e] at e'
  simp only [List.cons.injEq, and_true] at e'
  obtain rfl := e'.1
  rw [cLS.inj _ _ _ _ h h', J_inj e'.2]⟩
def cPlace : Contract := fnW cPlR (fun _ _ => True) (fun p _ v _ => v = S (p.1.getD p.2 0))
def ann48 : Ann := ⟨[], [], 70, [], [4], none, [], []⟩
theorem vc48 (X : Ctx) (β : Nat → Nat) (x0 x1 : Value) : (run Tryz.prog ann48 48 [.x (.v 0), .x (.v 1)] [] [] 3).den X (env0 [x0, x1] X.w0) 3 β 0 (fun _ _ _ => False) = (
  Ask (rAgg 4 (.agg #[(U 0), (U 0), (U 0), (U 0)])) fun _ =>
  AskNew X.w0 fun b0 =>
  Ask (rLen X.P 38 x0) fun x4 =>
  Ask (rBin X.P .lss 3 false false x1 x4) fun x5 =>
  (∃ t, x5 = .bool t) ∧ (x5 = .bool true →
    Ask (rIad X.P 38 x0 x1) fun x6 =>
    Ask (rLoad X X.w0 [] 37 x6) fun x7 =>
    Ask (rAgg 4 x7) fun x8 =>
    Ret X X.w0 [b0] [] x8) ∧ (x5 = .bool false →
    Ask (rAgg 4 (.agg #[(U 0), (U 0), (U 0), (U 0)])) fun x6 =>
    Ret X X.w0 [b0] [] x6)) := by kernel_rfl
theorem keepsPlace : Keeps1 Tryz.prog GT 48 cPlace := by
  refine keepsW (T := T0) (A := ann48) hMix keepT0 hGT (calls_of (by kernel_rfl)) (callsW_of (by kernel_rfl)) fun args ⟨l, i⟩ w0 hrd hpre hg => ?_
  obtain ⟨x, rfl, hl⟩ := hrd
  dsimp only at hl
  replace hl : Ls encS okS w0 x l := hl
  refine ⟨[.x (.v 0), .x (.v 1)], [], [], 3, env0 [x, J i] w0, fun b => b, 0, rfl, rfl, fun X hX => mem_none hX rfl, fun X hP hS hw hX hR => ?_⟩
  subst hw; try dsimp only at hR
  rw [vc48 X]
  rw [ask_zero4]
  intro b0 hb0
  refine a_len hP tyR hl.1 ?_
  rw [ask_lssN]
  refine a_ifD (fun hlt => ?_) fun hge => ?_
  · refine ld_R hP (kn0 X) hl.1 rfl rfl hlt (fun _ _ => List.not_mem_nil) ?_
    rw [ask_aggS]
    exact hR _ _ _ _ fun w hw => by rw [getD_at hlt]
  · rw [ask_zero4]
    exact hR _ _ _ _ fun w hw => by rw [getD_none (by omega)]

/-- An append of whole values to a list whose block is not among what is known of the call's cells. -/
theorem a_pushB {X : Ctx} {u : World} {bl bl' : List KB} {KW : Value → World → Prop} {P : Program} {t e ty ty' size bytes : Nat} {a b k : Nat} {z : Value} {base n : Nat} {v : Value} {xs : List Value} {parts : Array (Nat × Operand)} {args : List (Nat × Value)} (cells : Array Value)
    (hX : Std X) (hP : X.P = P) (hT : ElTy P t e size bytes z) (hab : (a == b) = false) (hzs : z.cells.size = size) (hsz : 0 < size)
    (hsmall : ¬ k * size > 2 ^ 24) (hpos : ¬ k * size = 0)
    (hf : Instr.fill (fun i => some (i * size, size)) ((Array.range (k * size)).map (z.cells[· % z.cells.size]!)) (parts.map fun (i, x) => (i, argsFn args x)).toList = some cells)
    (hcs : cells.size = k * size) (hone : cells.all (·.oneCell') = true) (hlow : ∀ g, v.ownBlock = some g → g ∉ bl'.map (·.b))
    (hb0 : X.w0.heap.size ≤ base) (hbase : base ≤ u.heap.size) (hown : u.ownsRow base e size v n xs)
    (h63 : n + k ≤ maxLen) (hbytes : (n + k) * bytes ≤ 140737488355328)
    (hK : ∀ v' w', Kn X w' → Stp v.ownBlock.toList u w' → w'.ownsRow base e size v' (n + k) (xs ++ cells.toList) → KW v' w') :
    AskO X u [] bl false (.buildSlice t k parts) ty args fun x w => AskO X w [] bl' true (appOp (.tmp a) (.tmp b) t) ty' [(a, v), (b, x)] KW := by
  refine a_build cells hX hP hT hsmall hpos hf hcs (by omega) fun x w w1 hw hk1 hs1 hsu hown1 => ?_
  refine a_append hX hP hT (by simp [argsFn]) (by simp [argsFn, hab]) hzs hsz hb0 (Nat.le_trans hbase (Nat.le_trans hw.size hs1.size)) (own_stp0 hown hsu) (fun w2 hw2 => (own_slAt hown1).stp0 hw2.stp) (by simpa using hcs) (fun c hc => Array.all_eq_true_iff_forall_mem.1 hone c (by simpa using hc))
    (fun _ _ => List.not_mem_nil) (fun _ _ => hlow) h63 hbytes fun v' w2 w' hw2 hk' hs2 hs3 hown' hbl => ?_
  exact hK v' w' hk' (by simpa using hsu.trans hs3) hown'

/-! ### Times -/
def mulL (k : Nat) (l : List Nat) : List Nat := l.map fun n => n * k % lN
theorem mulL_lt (k : Nat) (l : List Nat) : ∀ x ∈ mulL k l, x < lN := fun x hx => by
  obtain ⟨y, _, rfl⟩ := List.mem_map.1 hx; exact Nat.mod_lt _ (by decide)
def cRTim : Contract := fnW cElS (fun p _ => p.1.length ≤ mx) (fun p w v w' => Tre w.heap.size w' v (mulL p.2 p.1))
def Tti : Table := (T0.add 6 cFreeOf).add 52 cMulS
theorem keepTti : AllKeep Tryz.prog GT Tti := (keepT0.add keepsFreeOf).add keepsRMul
def ann15 : Ann := ⟨[(8, ([5, 6], []))], [52, 46, 44, 51], 70, [(6, false)], [2, 4], none, [], []⟩
def kb15_0 (b0 b1 b2 : Nat) (x3 x5 x6 x7 x8 x9 : Value) : List KB := [⟨b0, true, 40, (aggArr x3)⟩, ⟨b1, true, 37, #[x5, x6, x7, x8]⟩, ⟨b2, true, 40, (aggArr x9)⟩]
theorem vc15 (X : Ctx) (β : Nat → Nat) (x0 x1 : Value) : (run Tryz.prog ann15 15 [.x (.v 0), .x (.v 1)] [] [] 3).den X (env0 [x0, x1] X.w0) 3 β 0 (fun _ _ _ => False) = (
  Ask (rAgg 26 x0) fun x3 =>
  AskNew X.w0 fun b0 =>
  Ask (rAgg 4 x1) fun x4 =>
  Ask (rSel (aggArr x4) 0 1 false) fun x5 =>
  Ask (rSel (aggArr x4) 1 1 false) fun x6 =>
  Ask (rSel (aggArr x4) 2 1 false) fun x7 =>
  Ask (rSel (aggArr x4) 3 1 false) fun x8 =>
  AskNew X.w0 fun b1 =>
  Ask (rAgg 26 (.agg #[(J 0), (J 0), (J 0), (J 0), (J 0), (J 0), (J 0), (J 0), (J 0), (J 0), (J 0), (J 0), (J 0), (J 0), (J 0), (J 0), (J 0), (J 0), (J 0), (J 0), (J 0), (U 0), (U 0), (U 0), (U 0), (.slice none 0 0)])) fun x9 =>
  AskNew X.w0 fun b2 =>
  Ask (rSel (aggArr x3) 0 1 false) fun x10 =>
  Ask (rBin X.P .eql 3 false true x10 (J 1)) fun x11 =>
  (∃ t, x11 = .bool t) ∧ (x11 = .bool true →
    Ask (rSel (aggArr x3) 1 20 true) fun x12 =>
    AskF X 51 [x12, (.agg #[x5, x6, x7, x8])] fun x13 =>
    AskF X 44 [x13] fun x14 =>
    Ask (rAgg 26 x14) fun x15 =>
    Ret X X.w0 [b2] [] x15) ∧ (x11 = .bool false →
    Ask (rBin X.P .eql 3 false true x10 (J 2)) fun x12 =>
    (∃ t, x12 = .bool t) ∧ (x12 = .bool true →
      Ask (rSel (aggArr x3) 21 4 true) fun x13 =>
      AskF X 52 [x13, (.agg #[x5, x6, x7, x8])] fun x14 =>
      AskF X 46 [x14] fun x15 =>
      Ask (rAgg 26 x15) fun x16 =>
      Ret X X.w0 [b2] [] x16) ∧ (x12 = .bool false →
      ∃ (I0 : List Value → World → Prop) (μ0 : List Value → World → Nat), (∀ w, KnownV X X.w0 [] (kb15_0 b0 b1 b2 x3 x5 x6 x7 x8 x9) w → I0 [(.slice none 0 0), (J 0)] w) ∧ ∀ x13 x14 w15, I0 [x13, x14] w15 →
        Ask (rSel (aggArr x3) 25 1 false) fun x16 =>
        Ask (rLen X.P 38 x16) fun x17 =>
        Ask (rBin X.P .lss 3 false false x14 x17) fun x18 =>
        (∃ t, x18 = .bool t) ∧ (x18 = .bool true →
          Ask (rSel (aggArr x3) 25 1 false) fun x19 =>
          Ask (rIad X.P 38 x19 x14) fun x20 =>
          Ask (rLoad X w15 [] 37 x20) fun x21 =>
          AskF X 52 [x21, (.agg #[x5, x6, x7, x8])] fun x22 =>
          AskO X w15 [] (kb15_0 b0 b1 b2 x3 x5 x6 x7 x8 x9) false (Go.Op.buildSlice 38 1 #[(0, Go.Operand.tmp 37)]) 38 [(37, x22)] fun x23 w23 =>
          AskO X w23 [] (kb15_0 b0 b1 b2 x3 x5 x6 x7 x8 x9) true (appOp (.tmp 30) (.tmp 38) 38) 38 [(30, x13), (38, x23)] fun x24 w24 =>
          Ask (rBin X.P .add 3 false true x14 (J 1)) fun x25 =>
          Again X w24 [] [] fun w => I0 [x24, x25] w ∧ μ0 [x24, x25] w < μ0 [x13, x14] w15) ∧ (x18 = .bool false →
          AskW X w15 [] (kb15_0 b0 b1 b2 x3 x5 x6 x7 x8 x9) false 6 [x13] fun x19 w19 =>
          Ask (rAgg 26 x19) fun x20 =>
          Ret X w19 [b2] [] x20)))) := by kernel_rfl
theorem keepsRTim : Keeps1 Tryz.prog GT 15 cRTim := by
  refine keepsW (T := Tti) (A := ann15) hMix keepTti hGT (calls_of (by kernel_rfl)) (callsW_of (by kernel_rfl)) fun args ⟨l, k⟩ w0 hrd hpre hg => ?_
  obtain ⟨x, rfl, hl, hk⟩ := hrd
  dsimp only at hl hpre hk
  replace hl : Ls encS okS w0 x l := hl
  simp only [mx] at hpre
  refine ⟨[.x (.v 0), .x (.v 1)], [], [], 3, env0 [EL x, S k] w0, fun b => b, 0, rfl, rfl, fun X hX => mem_none hX rfl, fun X hP hS hw hX hR => ?_⟩
  subst hw; try dsimp only at hR
  rw [vc15 X]
  refine a_agg (cs := encEL x) rfl (one_encEL (slAt_one hl.1)) ?_
  intro b0 hb0
  refine a_agg (cs := encS k) rfl (one_encS k) ?_
  iterate 4 refine a_sel1 rfl ?_
  intro b1 hb1
  refine a_agg (cs := zE) rfl rfl ?_
  intro b2 hb2
  refine a_sel1 rfl ?_
  rw [ask_eqlN]
  refine a_ifD (fun h => by omega) fun _ => ?_
  rw [ask_eqlN]
  refine a_ifD (fun h => by omega) fun _ => ?_
  have hml : (mulL k l).length = l.length := by simp [mulL]
  refine ⟨fun a w => ∃ (j B : Nat) (o : Value), a = [o, J j] ∧ j ≤ l.length ∧ (b0 < B ∧ b1 < B ∧ b2 < B) ∧ X.w0.heap.size ≤ B ∧ B ≤ w.heap.size ∧ w.ownsRow B 37 4 o j (((mulL k l).take j).flatMap encS) ∧ Kn X w, fun a _ => match a with | [_, i] => l.length - intNat i | _ => 0,
    fun w2 hw2 => ⟨0, w2.heap.size, _, rfl, Nat.zero_le _, ⟨hw2.low (by simp [kb15_0]), hw2.low (by simp [kb15_0]), hw2.low (by simp [kb15_0])⟩, hw2.sz0, Nat.le_refl _, World.ownsRow_nil _ _ _ _, hw2.kn⟩, ?_⟩
  rintro o _ w2 ⟨j, B, _, he, hj, hB, hB0, hBw, ho, hkn2⟩
  simp only [List.cons.injEq, and_true] at he
  obtain ⟨rfl, rfl⟩ := he
  refine a_sel1 rfl (a_len hP tyR hl.1 ?_)
  rw [ask_lssN]
  refine a_ifD (fun hlt => ?_) fun hge => ?_
  · refine a_sel1 rfl ?_
    refine ld_R hP hkn2 (hl.1.stp0 (hkn2.stp0 hX)) rfl rfl (by omega) (fun _ _ => List.not_mem_nil) ?_
    refine call_PE hS (T := Tti) (f := 52) rfl (l[j], k) ⟨hl.2 _ (List.getElem_mem hlt), hk⟩ ?_
    refine a_pushB (encS (l[j] * k % lN)).toArray hX hP tyR rfl rfl (by decide) (by decide) (by decide) (by kernel_rfl) rfl (one_encS' _) (fun g hg => by have := ho.lt g hg; simp [kb15_0]; omega) hB0 hBw ho (by simp only [maxLen]; omega) (by omega) fun o' w' k' s' ho' => ?_
    rw [ask_succ (by omega)]
    intro w3 hw3
    refine ⟨⟨j + 1, B, o', rfl, hlt, hB, hB0, Nat.le_trans hBw (Nat.le_trans s'.size hw3.size), ?_, hw3.kn⟩, by simp [intNat]; omega⟩
    rw [flat_take (mulL k l) j (by omega)]
    have e : (mulL k l)[j]'(by omega) = l[j] * k % lN := by simp [mulL]
    rw [e]
    exact own_stp0 ho' hw3.stp
  · obtain rfl : j = l.length := by omega
    rw [List.take_of_length_le (by omega)] at ho
    refine call_W hX hS (T := Tti) (f := 6) rfl (mulL k l, ()) (fun w hw => ⟨⟨_, _, rfl, (⟨by rw [hml]; exact (own_slAt ho).stp0 hw.stp, fun y hy => Nat.lt_trans (mulL_lt k l y hy) (by decide)⟩ : Ls encS okS _ _ _), rfl⟩, by rw [hml]; simp only [mx]; omega⟩) fun v w5 w6 h5 k6 s6 _ hp => ?_
    obtain ⟨y, rfl, oy⟩ := hp
    dsimp only at oy
    have b5 : b2 < w5.heap.size := h5.low (by simp [kb15_0])
    refine a_agg (cs := encEL y) rfl (one_encEL (own_one oy)) ?_
    exact hR _ _ _ _ fun w hw => ⟨y, rfl, own_mono (own_stp oy hw.stp (off_own oy (all1 b5))) h5.sz0⟩
#print axioms keepsRTim
end Go.Vc
