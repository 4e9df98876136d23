import Derived.Test.YtcnmnmhmmgjblaaGreatDoorDJf
/-
  The prover's plan.
-/
namespace Go.Vc
open Go Go.Proofs Go.RowKit
def ann92 : Ann := ⟨[(4, ([7, 22], [0, 1, 2, 3])), (7, ([7, 27], [4]))], [23, 49, 29], 70, [(95, false)], [4, 5, 8, 9], none, [], []⟩
def kb92_0 (b0 b1 b2 : Nat) (x0 x1 x5 x6 : Value) : List KB := [⟨b0, true, 45, #[x0, x1]⟩, ⟨b1, true, 29, (aggArr x5)⟩, ⟨b2, true, 29, (aggArr x6)⟩]
def kb92_1 (b0 b1 b2 b3 : Nat) (x0 x1 x5 x6 x13 : Value) : List KB := [⟨b0, true, 45, #[x0, x1]⟩, ⟨b1, true, 29, (aggArr x5)⟩, ⟨b2, true, 29, (aggArr x6)⟩, ⟨b3, true, 29, (aggArr x13)⟩]
def kb92_2 (b0 b1 b2 b3 b4 : Nat) (x16 x17 x18 x19 x20 x24 : Value) : List KB := [⟨b0, true, 45, #[x16, x17]⟩, ⟨b1, true, 29, (aggArr x18)⟩, ⟨b2, true, 29, (aggArr x19)⟩, ⟨b3, true, 29, (aggArr x20)⟩, ⟨b4, true, 29, (aggArr x24)⟩]
def kb92_3 (b0 b1 b2 b3 b4 : Nat) (x16 x17 x18 x19 x20 x27 : Value) : List KB := [⟨b0, true, 45, #[x16, x17]⟩, ⟨b1, true, 29, (aggArr x18)⟩, ⟨b2, true, 29, (aggArr x19)⟩, ⟨b3, true, 29, (aggArr x20)⟩, ⟨b4, true, 29, (aggArr x27)⟩]
theorem vc92 (X : Ctx) (β : Nat → Nat) (x0 x1 x2 x3 : Value) : (run Tryz.prog ann92 92 [.l [.v 0, .v 1], .x (.v 2), .x (.v 3)] [] [] 5).den X (env0 [x0, x1, x2, x3] X.w0) 5 β 0 (fun _ _ _ => False) = (
 AskNew X.w0 fun b0 =>
 Ask (rAgg 4 x2) fun x5 =>
 AskNew X.w0 fun b1 =>
 Ask (rAgg 4 x3) fun x6 =>
 AskNew X.w0 fun b2 =>
 AskF X 23 [(.agg #[x0, x1])] fun x7 =>
 AskW X X.w0 [] (kb92_0 b0 b1 b2 x0 x1 x5 x6) false 95 [x5, x7] fun x8 w8 =>
 Ask (rExt X.P x8 0) fun x9 =>
 Ask (rExt X.P x8 1) fun _ =>
 AskF X 49 [x6, x6] fun x11 =>
 Ask (rAgg 4 (.agg #[(U 0), (U 0), (U 0), (U 0)])) fun _ =>
 AskNew w8 fun b3 =>
 Ask (rAgg 4 x11) fun x13 =>
 ∃ (I0 : List Value → World → Prop) (μ0 : List Value → World → Nat), (∀ w, KnownV X w8 [b3] (kb92_1 b0 b1 b2 b3 x0 x1 x5 x6 x13) w → I0 [(.slice none 0 0), (J 0), x0, x1, x5, x6, x13] w) ∧ ∀ x14 x15 x16 x17 x18 x19 x20 w21, I0 [x14, x15, x16, x17, x18, x19, x20] w21 →
 Ask (rBin X.P .lss 3 false false x15 x1) fun x22 =>
 (∃ t, x22 = .bool t) ∧ (x22 = .bool true →
 Ask (rAgg 4 (.agg #[(U 0), (U 0), (U 0), (U 0)])) fun _ =>
 AskNew w21 fun b4 =>
 Ask (rAgg 4 x20) fun x24 =>
 ∃ (I1 : List Value → World → Prop) (μ1 : List Value → World → Nat), (∀ w, KnownV X w21 [b4] (kb92_2 b0 b1 b2 b3 b4 x16 x17 x18 x19 x20 x24) w → I1 [x14, (J 0), x24] w) ∧ ∀ x25 x26 x27 w28, I1 [x25, x26, x27] w28 →
 Ask (rBin X.P .lss 3 false false x26 x16) fun x29 =>
 (∃ t, x29 = .bool t) ∧ (x29 = .bool true →
 AskO X w28 [] (kb92_3 b0 b1 b2 b3 b4 x16 x17 x18 x19 x20 x27) false (Op.buildSlice 28 1 #[(0, Operand.tmp 30)]) 28 [(30, x27)] fun x30 w30 =>
 AskO X w30 [] (kb92_3 b0 b1 b2 b3 b4 x16 x17 x18 x19 x20 x27) true (appOp (.tmp 29) (.tmp 31) 28) 28 [(29, x25), (31, x30)] fun x31 w31 =>
 AskF X 29 [x27, x27] fun x32 =>
 Ask (rAgg 4 x32) fun x33 =>
 Ask (rBin X.P .add 3 false true x26 (J 1)) fun x34 =>
 Again X w31 [b4] [] fun w => I1 [x31, x34, x33] w ∧ μ1 [x31, x34, x33] w < μ1 [x25, x26, x27] w28) ∧ (x29 = .bool false →
 AskF X 49 [x20, x19] fun x30 =>
 Ask (rAgg 4 x30) fun x31 =>
 Ask (rBin X.P .add 3 false true x15 (J 1)) fun x32 =>
 Again X w28 [b3] [] fun w => I0 [x25, x32, x16, x17, x18, x19, x31] w ∧ μ0 [x25, x32, x16, x17, x18, x19, x31] w < μ0 [x14, x15, x16, x17, x18, x19, x20] w21)) ∧ (x22 = .bool false →
 Ret X w21 [] [] (.tuple #[x9, x14]))) := by kernel_rfl
def wtF (z : F) (m i : Nat) : F := fp z (2 + i / m) * fp (rF 2) (i % m)
def cPln : Contract := fnW (Cods.cons cPn (Cods.cons cSj (Cods.cons cSj Cods.nil))) (fun p _ => 0 < p.1.1 ∧ p.1.1 * p.1.2 ≤ 60) (fun p w v w' => ∃ ys st, v = .tuple #[ys, st] ∧ w'.ownsRow w.heap.size 29 4 ys (p.1.1 * p.1.2) ((mapN (fp (rF p.2.1)) (p.1.1 * p.1.2)).flatMap encF) ∧ w'.ownsRow w.heap.size 29 4 st (p.1.1 * p.1.2) ((mapN (wtF (rF p.2.2.1) p.1.1) (p.1.1 * p.1.2)).flatMap encF))
def Tpn : Table := (((T0.add 23 cSize).add 49 cqMul).add 29 cqAdd).add 95 cPws
theorem keepTpn : AllKeep Tryz.prog GT Tpn := (((keepT0.add keepsSize).add keepsqMul).add keepsqAdd).add keepsPws
theorem wtF_at (z : F) {m i : Nat} (j : Nat) (hi : i < m) : wtF z m (m * j + i) = fp z (2 + j) * fp (rF 2) i := by
  unfold wtF
  rw [Nat.mul_add_div (by omega), Nat.div_eq_of_lt hi, Nat.add_zero, Nat.mul_add_mod, Nat.mod_eq_of_lt hi]
theorem fp_dbl (a : F) (i : Nat) : a * fp (rF 2) i + a * fp (rF 2) i = a * fp (rF 2) (i + 1) := by
  rw [fp_succ, show rF 2 = 1 + 1 by rw [← rF_one, ← rF_add]]; grind
theorem keepsPln : Keeps1 Tryz.prog GT 92 cPln := by
  refine keepsW (T := Tpn) (A := ann92) hMix keepTpn hGT (calls_of (by kernel_rfl)) (callsW_of (by kernel_rfl)) fun args ⟨⟨m, n⟩, y, z, _⟩ w0 hrd hpre _ => ?_
  obtain ⟨_, _, rfl, rfl, _, _, rfl, ⟨rfl, hy⟩, _, _, rfl, ⟨rfl, hz⟩, rfl⟩ := hrd
  obtain ⟨hm0, hN⟩ := hpre
  dsimp only at hy hz hm0 hN
  refine ⟨[.l [.v 0, .v 1], .x (.v 2), .x (.v 3)], [], [], 5, env0 [J m, J n, S y, S z] w0, fun b => b, 0, rfl, rfl, fun X hX => mem_none hX rfl, fun X hP hS hw hX hR => ?_⟩
  subst hw; try dsimp only at hR
  rw [vc92 X]
  have hn60 : n ≤ 60 := Nat.le_trans (Nat.le_mul_of_pos_left n hm0) hN
  have hm60 : n = 0 ∨ m ≤ 60 := by
    rcases Nat.eq_zero_or_pos n with h | h
    · exact .inl h
    · exact .inr (Nat.le_trans (Nat.le_mul_of_pos_right m h) hN)
  intro b0 hb0
  rw [ask_aggS]; intro b1 hb1
  rw [ask_aggS]; intro b2 hb2
  refine call_PE hS (T := Tpn) (f := 23) rfl ((m : Int), (n : Int)) trivial ?_
  dsimp only
  rw [sizeI_nat (show m * n < 2 ^ 63 by omega)]
  refine call_W hX hS (T := Tpn) (f := 95) rfl (y, m * n, ()) (fun w hw => ⟨⟨_, _, rfl, ⟨rfl, hy⟩, _, _, rfl, rfl, rfl⟩, by show m * n ≤ 1024; omega⟩) fun v u1 W h1 kW s1 su1 hq => ?_
  obtain ⟨ys, rfl, oy⟩ := hq
  dsimp only at oy
  rw [ask_ext0, ask_ext1]
  have zu := h1.sz0
  have hU := su1.size
  refine call_PE hS (T := Tpn) (f := 49) rfl (z, z) ⟨hz, hz⟩ ?_
  dsimp only
  rw [show rF z * rF z = fp (rF z) 2 by rw [show (2 : Nat) = 0 + 1 + 1 from rfl, fp_succ, fp_succ, show fp (rF z) 0 = 1 from rfl]; grind]
  rw [ask_zero4]; intro b3 hb3
  rw [ask_aggS]
  have l3 : ∀ b ∈ [b0, b1, b2], b < W.heap.size := fun b hb => by
    have := h1.low (b := b) (by simpa [kb92_0] using hb)
    have := s1.size
    omega
  refine ⟨fun a w => ∃ (j : Nat) (o : Value), a = [o, J j, J m, J n, S y, S z, S (fp (rF z) (2 + j)).val] ∧ j ≤ n ∧ Kn X w ∧ MRows W w 29 4 encF [b3, b2, b1, b0] 1 (fun _ => o) (fun _ => mapN (wtF (rF z) m) (m * j)), fun a _ => match a with | _ :: i :: _ => n - intNat i | _ => 0, fun w hw => ⟨0, _, rfl, Nat.zero_le _, hw.kn, (MRows.nil W (hw.stp.drop (by simpa using hb3)) encF _ 1 _ 4).congr fun j _ => by rw [Nat.mul_zero]; rfl⟩, ?_⟩
  rintro o _ _ _ _ _ _ w ⟨j, _, he, hj, hk, hm⟩
  simp only [List.cons.injEq, and_true] at he
  obtain ⟨rfl, rfl, rfl, rfl, rfl, rfl, rfl⟩ := he
  rw [ask_lssN]
  have zw := hm.low.size
  refine a_ifD (fun hlt => ?_) fun hge => ?_
  · have hmm : m ≤ 60 := by omega
    have hjm : m * (j + 1) ≤ m * n := Nat.mul_le_mul_left m hlt
    rw [Nat.mul_succ] at hjm
    rw [ask_zero4]; intro b4 hb4
    rw [ask_aggS]
    refine ⟨fun a w => ∃ (i : Nat) (o : Value), a = [o, J i, S (fp (rF z) (2 + j) * fp (rF 2) i).val] ∧ i ≤ m ∧ Kn X w ∧ MRows W w 29 4 encF [b4, b3, b2, b1, b0] 1 (fun _ => o) (fun _ => mapN (wtF (rF z) m) (m * j + i)), fun a _ => match a with | _ :: i :: _ => m - intNat i | _ => 0, fun w2 hw2 => ⟨0, _, by rw [show fp (rF z) (2 + j) * fp (rF 2) 0 = fp (rF z) (2 + j) by rw [show fp (rF 2) 0 = 1 from rfl]; grind], Nat.zero_le _, hw2.kn, (hm.more hb4).stpE hw2.stp (by simp) (by simp; omega)⟩, ?_⟩
    rintro o2 _ _ w2 ⟨i, _, he, hi, hk2, hm2⟩
    simp only [List.cons.injEq, and_true] at he
    obtain ⟨rfl, rfl, rfl⟩ := he
    have zw2 := hm2.low.size
    rw [ask_lssN]
    refine a_ifD (fun hli => ?_) fun hgi => ?_
    · refine a_pushR [fp (rF z) (2 + j) * fp (rF 2) i] 1 rfl hX hP tySI rfl rfl (by decide) encF_len hm2 (i := 0) (by decide) rfl hU (fun b hb => .inr (by simpa [kb92_3, or_comm, or_left_comm, or_assoc] using hb)) (fun b hb => by simpa [kb92_3, or_comm, or_left_comm, or_assoc] using hb) (fun b hb => by cases hb) (by decide) (by decide) (by kernel_rfl) (by simp [one_encF]) (by rw [mapN_len]; unfold maxLen; omega) (by rw [mapN_len]; omega) fun v' w5 k5 s5 hm5 => ?_
      refine call_PE hS (T := Tpn) (f := 29) rfl (_, _) ⟨val_lt _, val_lt _⟩ ?_
      dsimp only
      rw [rF_val, fp_dbl, ask_aggS, ask_succ (by omega)]
      intro w6 hw6
      refine ⟨⟨i + 1, v', rfl, hli, hw6.kn, (hm5.stpE hw6.stp (by simp) (by simp; omega)).congrV (fun i hi => ?_) (fun i' hi' => ?_)⟩, by simp [intNat]; omega⟩
      · obtain rfl : i = 0 := by omega
        rfl
      · obtain rfl : i' = 0 := by omega
        show mapN _ (m * j + i) ++ [_] = _
        rw [← Nat.add_assoc, mapN_succ, wtF_at _ j hli]
    · obtain rfl : i = m := by omega
      refine call_PE hS (T := Tpn) (f := 49) rfl (_, z) ⟨val_lt _, hz⟩ ?_
      dsimp only
      rw [rF_val, ← fp_succ, ask_aggS, ask_succ (by omega)]
      intro w6 hw6
      refine ⟨⟨j + 1, o2, by rw [Nat.add_assoc], hlt, hw6.kn, ((hm2.stpE hw6.stp (by simp) (by simp; omega)).less fun b hb => List.mem_cons_of_mem _ hb).congr fun _ _ => by rw [Nat.mul_succ]⟩, by simp [intNat]; omega⟩
  · obtain rfl : j = n := by omega
    have r0 : w.ownsRow W.heap.size 29 4 o (mapN (wtF (rF z) m) (m * j)).length ((mapN (wtF (rF z) m) (m * j)).flatMap encF) := hm.row 0 (by decide)
    rw [mapN_len] at r0
    exact hR _ _ _ _ fun wf hwf => ⟨_, _, rfl, own_mono (own_stp0 oy (hm.low.trans0 hwf.stp)) zu, own_mono (own_stp0 r0 hwf.stp) (by omega)⟩
#print axioms keepsPln
end Go.Vc

/-
  Steps where memory that was handed in may be written to.
-/
namespace Go.Vc
open Go Go.Proofs Go.RowKit
section
variable {X : Ctx} {P : Program} {u : World} {ow : List Nat} {bl bl' : List KB} {KW : Value → World → Prop}
theorem n_build {t e ty size bytes : Nat} {z : Value} {len : Nat} {parts : Array (Nat × Operand)} {args : List (Nat × Value)} (cells : Array Value)
    (hX : StdN X) (hP : X.P = P) (hT : ElTy P t e size bytes z) (hsmall : ¬ len * size > 2 ^ 24) (hpos : ¬ len * size = 0)
    (hf : Instr.fill (fun i => some (i * size, size)) ((Array.range (len * size)).map (z.cells[· % z.cells.size]!)) (parts.map fun (i, x) => (i, argsFn args x)).toList = some cells)
    (hcs : cells.size = len * size) (hlen : len ≤ maxLen)
    (hK : ∀ g w w', KnownV X u ow bl w → Kn X w' → Stp [] w w' → Stp ow u w' → w'.ownsRow w.heap.size e size (.slice (some ⟨g, 0, none⟩) len len) len cells.toList → KW (.slice (some ⟨g, 0, none⟩) len len) w') :
    AskO X u ow bl false (.buildSlice t len parts) ty args KW := by
  subst hP
  obtain ⟨ie, hie, rfl, rfl, hz⟩ := hT.info
  refine ask_buildSlice cells ie z hT.sl hie hz hsmall hpos hf fun w hw => ?_
  have hs : Stp [] w (w.alloc (.cells cells e)) := ⟨by simp, fun b hb _ => heap_alloc_old w _ hb⟩
  refine hK _ w _ hw ⟨fun _ _ _ => rfl, Nat.le_refl _, fun b hb => ?_, Nat.le_trans hw.sz0 hs.size, hw.os, hw.tape, hw.output, fun _ h => by cases h⟩ hs (by simpa using hw.stp.trans hs) (World.ownsRow_lit w cells len (Nat.le_refl _) hlen hcs)
  have hlt : b < w.heap.size := by
    rcases Nat.lt_or_ge b w.heap.size with h | h
    · exact h
    · exact absurd (hX b (Nat.le_trans hw.sz0 h)) hb
  rw [hs.past b hlt (by simp)]; exact hw.keep b hb
theorem n_append {P : Program} {t e ty size bytes : Nat} {a b : Operand} {l : List (Nat × Value)} {z : Value} {base n m : Nat} {v x : Value} {xs ys : List Value}
    (hX : StdN X) (hP : X.P = P) (hT : ElTy P t e size bytes z) (e1 : argsFn l a = v) (e2 : argsFn l b = x) (hzs : z.cells.size = size) (hsz : 0 < size)
    (hb0 : X.w0.heap.size ≤ base) (hbase : base ≤ u.heap.size) (hown : u.ownsRow base e size v n xs) (hx : ∀ w, KnownV X u ow bl w → SlAt w x m ys) (hl : ys.length = m * size) (h1 : ∀ c ∈ ys, c.oneCell' = true)
    (hvo : ∀ g, v.ownBlock = some g → g ∉ ow) (hvb : ∀ w, KnownV X u ow bl w → ∀ g, v.ownBlock = some g → g ∉ bl.map (·.b))
    (h63 : n + m ≤ maxLen) (hbytes : (n + m) * bytes ≤ 140737488355328)
    (hK : ∀ v' w w', KnownV X u ow bl w → Kn X w' → Stp v.ownBlock.toList w w' → Stp (ow ++ v.ownBlock.toList) u w' → w'.ownsRow base e size v' (n + m) (xs ++ ys) → (v'.ownBlock = v.ownBlock ∨ v'.ownBlock = some w.heap.size) → KW v' w') :
    AskO X u ow bl true (appOp a b t) ty l KW := by
  subst hP
  obtain ⟨ie, hi, rfl, rfl, hz⟩ := hT.info
  have ht := hT.sl
  have key : ∀ w, KnownV X u ow bl w → ∃ v' w', (execOp (argsFn l) ⟨none, appOp a b t, ty, "", #[], none⟩).run X.P w = .ok (.value v') w' ∧
      w'.ownsRow base e ie.size v' (n + m) (xs ++ ys) ∧ w.grownBy w' v.ownBlock ∧ (v'.ownBlock = v.ownBlock ∨ v'.ownBlock = some w.heap.size) := fun w hw => by
    obtain ⟨v', w', hr, h2, h3, h4⟩ := app_run (P := X.P) w base t ty e ie z ie.bytes ht hi hz rfl hzs hsz v n xs (own_stp hown hw.stp hvo) x m ys (hx w hw) hl h1 h63 hbytes (Nat.le_trans hbase hw.size)
    refine ⟨v', w', ?_, h2, h3, h4⟩
    simp only [appOp, execOp, resolve, invoke, builtin, Sem.run_bind, Sem.run_pure, Result.andThen_ok, List.map_toArray, List.map_cons, List.map_nil, e1, e2, hr]
  have own0 : ∀ w, KnownV X u ow bl w → ∀ g, v.ownBlock = some g → X.mine g := fun w hw g hg => hX g (Nat.le_trans hb0 (hown.lt g hg).1)
  refine askE_intro (fun w hw => ?_) fun v' w' ⟨w, hw, hr⟩ => ?_
  · obtain ⟨v', w', hr, h2, h3, h4⟩ := key w hw
    refine ⟨v', w', hr, h3.os, h3.tape, h3.output, h3.size, fun g hg hm => h3.block g hg fun hh => ?_⟩
    rcases hm rfl with hm | hm
    · exact hm (own0 w hw g hh.symm)
    · exact hvb w hw g hh.symm hm
  · obtain ⟨v1, w1, hr1, h2, h3, h4⟩ := key w hw
    rw [hr1] at hr
    cases hr
    have hs : Stp v.ownBlock.toList w w' := ⟨h3.size, fun g hg hn => h3.block g hg fun hh => hn (by rw [← hh]; simp)⟩
    refine hK v' w w' hw ⟨fun _ _ _ => rfl, Nat.le_refl _, fun g hg => ?_, Nat.le_trans hw.sz0 h3.size, h3.os.trans hw.os, h3.tape.trans hw.tape, h3.output.trans hw.output, fun _ h => by cases h⟩ hs (hw.stp.trans hs) h2 h4
    rcases Nat.lt_or_ge g w.heap.size with hlt | hge
    · rw [h3.block g hlt fun hh => hg (own0 w hw g hh.symm)]; exact hw.keep g hg
    · exact absurd (hX g (Nat.le_trans hw.sz0 hge)) hg
theorem n_pushN {P : Program} {t e ty ty' size bytes : Nat} {a b k : Nat} {z : Value} {base n : Nat} {v : Value} {xs : List Value} {parts : Array (Nat × Operand)} {args : List (Nat × Value)} {ow : List Nat} (cells : Array Value)
    (hX : StdN X) (hP : X.P = P) (hT : ElTy P t e size bytes z) (hab : (a == b) = false) (hzs : z.cells.size = size) (hsz : 0 < size)
    (hsmall : ¬ k * size > 2 ^ 24) (hpos : ¬ k * size = 0)
    (hf : Instr.fill (fun i => some (i * size, size)) ((Array.range (k * size)).map (z.cells[· % z.cells.size]!)) (parts.map fun (i, x) => (i, argsFn args x)).toList = some cells)
    (hcs : cells.size = k * size) (hone : cells.all (·.oneCell') = true) (hlow : ∀ g, v.ownBlock = some g → g ∉ bl'.map (·.b)) (hlo : ∀ g, v.ownBlock = some g → g ∉ ow)
    (hb0 : X.w0.heap.size ≤ base) (hbase : base ≤ u.heap.size) (hown : u.ownsRow base e size v n xs)
    (h63 : n + k ≤ maxLen) (hbytes : (n + k) * bytes ≤ 140737488355328)
    (hK : ∀ v' w', Kn X w' → Stp (ow ++ v.ownBlock.toList) u w' → w'.ownsRow base e size v' (n + k) (xs ++ cells.toList) → (v'.ownBlock = v.ownBlock ∨ ∃ g, v'.ownBlock = some g ∧ u.heap.size ≤ g ∧ g ∉ bl'.map (·.b)) → KW v' w') :
    AskO X u ow bl false (.buildSlice t k parts) ty args fun x w => AskO X w [] bl' true (appOp (.tmp a) (.tmp b) t) ty' [(a, v), (b, x)] KW := by
  refine n_build cells hX hP hT hsmall hpos hf hcs (by omega) fun x w w1 hw hk1 hs1 hsu hown1 => ?_
  refine n_append hX hP hT (by simp [argsFn]) (by simp [argsFn, hab]) hzs hsz hb0 (Nat.le_trans hbase (Nat.le_trans hw.size hs1.size)) (own_stp hown hsu hlo) (fun w2 hw2 => (own_slAt hown1).stp0 hw2.stp) (by simpa using hcs) (fun c hc => Array.all_eq_true_iff_forall_mem.1 hone c (by simpa using hc))
    (fun _ _ => List.not_mem_nil) (fun _ _ => hlow) h63 hbytes fun v' w2 w' hw2 hk' hs2 hs3 hown' hbl => ?_
  have h12 : Stp ow u w2 := by simpa using hsu.trans hw2.stp
  exact hK v' w' hk' (h12.trans hs2) hown' (hbl.imp_right fun h => ⟨_, h, h12.size, fun hm => Nat.lt_irrefl _ (hw2.low hm)⟩)
theorem n_pushR {α : Type} {X : Ctx} {u U : World} {bl bl' : List KB} {KW : Value → World → Prop} {P : Program} {t e ty ty' size bytes : Nat} {a b : Nat} {z : Value} {parts : Array (Nat × Operand)} {args : List (Nat × Value)} {enc : α → List Value} {nb ow : List Nat} {N i : Nat} {V : Nat → Value} {l : Nat → List α}
    (zs : List α) (k : Nat) (hk : zs.length = k) (hX : StdN X) (hP : X.P = P) (hT : ElTy P t e size bytes z) (hab : (a == b) = false) (hzs : z.cells.size = size) (hsz : 0 < size) (hlen : ∀ x, (enc x).length = size) (hR : MRows U u e size enc nb N V l) (hi : i < N) {v : Value} (hv : V i = v)
    (hU : X.w0.heap.size ≤ U.heap.size) (hnb : ∀ b ∈ nb, b < u.heap.size ∨ b ∈ bl'.map (·.b)) (hsub : ∀ b ∈ bl'.map (·.b), b ∈ nb) (ho : ∀ b ∈ ow, b ∈ nb ∧ U.heap.size ≤ b)
    (hsmall : ¬ k * size > 2 ^ 24) (hpos : ¬ k * size = 0)
    (hf : Instr.fill (fun i => some (i * size, size)) ((Array.range (k * size)).map (z.cells[· % z.cells.size]!)) (parts.map fun (i, x) => (i, argsFn args x)).toList = some (zs.flatMap enc).toArray)
    (hone : (zs.flatMap enc).all (·.oneCell') = true)
    (h63 : (l i).length + k ≤ maxLen) (hbytes : ((l i).length + k) * bytes ≤ 140737488355328)
    (hK : ∀ v' w', Kn X w' → Stp (ow ++ v.ownBlock.toList) u w' → MRows U w' e size enc nb N (upd V i v') (upd l i (l i ++ zs)) → KW v' w') :
    AskO X u ow bl false (.buildSlice t k parts) ty args fun x w => AskO X w [] bl' true (appOp (.tmp a) (.tmp b) t) ty' [(a, v), (b, x)] KW := by
  subst hv
  have hcs : (zs.flatMap enc).length = k * size := by rw [flat_len hlen, hk]
  refine n_pushN (zs.flatMap enc).toArray hX hP hT hab hzs hsz hsmall hpos hf (by simpa using hcs) (by simpa using hone) (fun g hg hm => hR.off i hi g hg (hsub g hm)) (fun g hg hm => hR.off i hi g hg (ho g hm).1) hU hR.low.size (hR.row i hi) h63 hbytes fun v' w' hk' hs hrow hmv => ?_
  exact hK v' w' hk' hs (hR.put hi hs ho hk (by simpa using hrow) hnb hmv)
theorem n_W {α : Type} {X : Ctx} {T : Table} {f : Nat} {c : Cods α} {pre : α → World → Prop} {post : α → World → Value → World → Prop} {u : World} {ow : List Nat} {bl : List KB} {md : Bool} {args : List Value} {K : Value → World → Prop}
    (hX : StdN X) (hS : X.S = T.spec) (hT : T f = fnW c pre post) (a : α) (hrd : ∀ w, KnownV X u ow bl w → c.rd w args a ∧ pre a w)
    (hK : ∀ v w w', KnownV X u ow bl w → Kn X w' → Stp [] w w' → Stp ow u w' → post a w v w' → K v w') : AskW X u ow bl md f args K := by
  have h1 : ∀ w, X.S.preW f args w = (fnW c pre post).preW args w := fun w => by rw [hS]; show (T f).preW _ _ = _; rw [hT]
  have h2 : ∀ w v w', X.S.postW f args w v w' = (fnW c pre post).postW args w v w' := fun w v w' => by rw [hS]; show (T f).postW _ _ _ _ = _; rw [hT]
  have h3 : ∀ w b, X.S.modW f args w b = False := fun w b => by rw [hS]; show (T f).modW _ _ _ = _; rw [hT]; rfl
  refine ask_callW (fun w hw => ⟨by rw [h1]; exact ⟨a, hrd w hw⟩, fun b hb => by rw [h3] at hb; exact hb.elim⟩) fun w v w' hw hp => ?_
  rw [h2] at hp
  obtain ⟨hp, hk⟩ := hp
  have hs := KeepsM.stp hk
  refine hK v w w' hw ⟨fun _ _ _ => rfl, Nat.le_refl _, fun b hb => ?_, Nat.le_trans hw.sz0 hk.size, hk.os.trans hw.os, hk.tape.trans hw.tape, hk.output.trans hw.output, fun _ h => by cases h⟩ hs ?_ (hp a (hrd w hw).1)
  · rcases Nat.lt_or_ge b w.heap.size with hlt | hge
    · rw [hk.block b hlt id]; exact hw.keep b hb
    · exact absurd (hX b (Nat.le_trans hw.sz0 hge)) hb
  · have := hw.stp.trans hs
    simpa using this
theorem n_V {α : Type} {X : Ctx} {T : Table} {f : Nat} {c : Cods α} {pre : α → World → Prop} {post : α → World → Value → World → Prop} {u : World} {ow : List Nat} {bl : List KB} {md : Bool} {x : Value} {p q : Array Value} {args : List Value} {K : Value → World → Prop}
    (hX : StdN X) (hS : X.S = T.spec) (hx : x = .func (.func f) p q) (he : ∀ args w, (callFunc f args).run X.P w = .ok (.enter f args) w) (hT : T f = fnW c pre post) (a : α) (hrd : ∀ w, KnownV X u ow bl w → c.rd w (p.toList ++ args ++ q.toList) a ∧ pre a w)
    (hK : ∀ v w w', KnownV X u ow bl w → Kn X w' → Stp [] w w' → Stp ow u w' → post a w v w' → K v w') : AskV X u ow bl md x args K := by
  have h := n_W (md := md) (args := p.toList ++ args ++ q.toList) hX hS hT a hrd hK
  refine ⟨⟨f, p, q, hx, he, h.1⟩, fun v ⟨w, f', p', q', hw, hx', hp⟩ => h.2 v ⟨w, hw, ?_⟩⟩
  rw [hx] at hx'
  cases hx'
  exact hp
end
end Go.Vc
