import Derived.Test.YtcnmnmhmmgjblaaGreatDoorDIh
/-
  The program's weights: powers of challenges, and what stands for them.
-/
namespace Go.Vc
open Go Go.Proofs Go.RowKit
def ann216 : Ann := ⟨[], [], 70, [], [1, 2], none, [], []⟩
theorem vc216 (X : Ctx) (β : Nat → Nat) (x0 : Value) : (run Tryz.prog ann216 216 [.x (.v 0)] [] [] 2).den X (env0 [x0] X.w0) 2 β 0 (fun _ _ _ => False) = (
 Ask (rAgg 4 x0) fun _ =>
 AskNew X.w0 fun _ =>
 Ask (rAgg 4 (.agg #[(U 0), (U 0), (U 0), (U 0)])) fun _ =>
 AskNew X.w0 fun b1 =>
 Ask (rAgg 4 (.agg #[(U 1), (U 0), (U 0), (U 0)])) fun x4 =>
 Ret X X.w0 [b1] [] x4) := by kernel_rfl
def cOneS : Contract := fnP enc1 (· < W256) (fun _ v => v = S 1)
theorem keepsOneS : Keeps1 Tryz.prog GT 216 cOneS := by
  refine keepsP (T := T0) (A := ann216) inj1 hMix keepT0 hGT (calls_of (by kernel_rfl)) (callsW_of (by kernel_rfl)) fun n w0 hn _ => ⟨[.x (.v 0)], [], [], 2, env0 [S n] w0, fun b => b, 0, rfl, rfl, fun X hX => mem_none hX rfl, fun X hP hS hw hX hR => ?_⟩
  subst hw
  rw [vc216 X]
  rw [ask_aggS]; intro _ _; rw [ask_zero4]; intro _ _
  rw [show Value.agg #[U 1, U 0, U 0, U 0] = S 1 from rfl, ask_aggS]
  exact hR _ _ _ _ rfl
/-! ### powers -/
def padF (f : Nat → F) (i n : Nat) : List F := mapN (fun j => if j < i then f j else 0) n
theorem padF_len (f : Nat → F) (i n : Nat) : (padF f i n).length = n := mapN_len _ _
theorem padF_zero (f : Nat → F) (n : Nat) : padF f 0 n = List.replicate n 0 := by
  refine List.ext_getElem (by simp [padF, mapN]) fun j h1 h2 => ?_
  simp [padF, mapN]
theorem padF_set (f : Nat → F) (i n : Nat) : (padF f i n).set i (f i) = padF f (i + 1) n := by
  refine List.ext_getElem (by simp [padF, mapN]) fun j h1 h2 => ?_
  rw [List.getElem_set]
  simp only [padF, mapN, List.getElem_map, List.getElem_range]
  by_cases e : i = j
  · subst e; rw [if_pos rfl, if_pos (by omega)]
  · rw [if_neg e]
    by_cases q : j < i
    · rw [if_pos q, if_pos (by omega)]
    · rw [if_neg q, if_neg (by omega)]
theorem padF_full (f : Nat → F) (n : Nat) : padF f n n = mapN f n := mapN_congr fun i hi => by rw [if_pos hi]
theorem makeISc (x : Value) (w : World) : (Instr.makeInterface 29 x).run Tryz.prog w = .ok (.iface 29 x) w := by kernel_rfl
theorem methOne (a : Nat) : Meth Tryz.prog (.iface 29 (S a)) "One" [] 216 [S a] := fun w => by kernel_rfl
theorem methMul (a b : Nat) : Meth Tryz.prog (.iface 29 (S a)) "Mul" [S b] 49 [S a, S b] := fun w => by kernel_rfl
theorem ask_makeIn {P : Program} {K : Value → Prop} {t a ty : Nat} {x : Value} (h : ∀ w, (Instr.makeInterface t x).run P w = .ok (.iface t x) w) : Ask (rGen P (.makeInterface t (.tmp a)) ty [(a, x)]) K = K (.iface t x) :=
  ask_eq (runsN_iff fun w => by simp [execOp, argsFn, h])
def ann95 : Ann := ⟨[(6, ([22], [1]))], [], 70, [], [2, 7], none, [], []⟩
def kb95_0 (b0 : Nat) (x3 : Value) : List KB := [⟨b0, true, 29, (aggArr x3)⟩]
def kb95_1 (b0 b1 : Nat) (x3 x11 : Value) : List KB := [⟨b0, true, 29, (aggArr x3)⟩, ⟨b1, true, 29, (aggArr x11)⟩]
def kb95_2 (b0 b1 : Nat) (x3 x14 : Value) : List KB := [⟨b0, true, 29, (aggArr x3)⟩, ⟨b1, true, 29, (aggArr x14)⟩]
theorem vc95 (X : Ctx) (β : Nat → Nat) (x0 x1 : Value) : (run Tryz.prog ann95 95 [.x (.v 0), .x (.v 1)] [] [] 3).den X (env0 [x0, x1] X.w0) 3 β 0 (fun _ _ _ => False) = (
 Ask (rAgg 4 x0) fun x3 =>
 AskNew X.w0 fun b0 =>
 Ask (rBin X.P .lss 3 false true x1 (J 0)) fun x4 =>
 AskG [(x4, false)] (rBin X.P .gtr 3 false true x1 (J 4096)) fun x5 =>
 Ask (rPick x4 (.bool true) x5) fun x6 =>
 (∃ t, x6 = .bool t) ∧ (x6 = .bool true →
 Ret X X.w0 [] [] (.tuple #[(.slice none 0 0), (J 1)])) ∧ (x6 = .bool false →
 AskO X X.w0 [] (kb95_0 b0 x3) false (Op.makeSlice 28 (Operand.tmp 15) (Operand.tmp 15)) 28 [(15, x1), (15, x1)] fun x7 w7 =>
 Ask (rGen X.P (Op.makeInterface 29 (Operand.tmp 17)) 20 [(17, x3)]) fun x8 =>
 AskI X x8 "One" [] fun x9 =>
 Ask (rAgg 4 (.agg #[(U 0), (U 0), (U 0), (U 0)])) fun _ =>
 AskNew w7 fun b1 =>
 Ask (rAgg 4 x9) fun x11 =>
 Ask (rLen X.P 28 x7) fun x12 =>
 ∃ (I0 : List Value → World → Prop) (μ0 : List Value → World → Nat), (∀ w, KnownV X w7 [b1] (kb95_1 b0 b1 x3 x11) w → I0 [(J 0), x11] w) ∧ ∀ x13 x14 w15, I0 [x13, x14] w15 →
 Ask (rBin X.P .lss 3 false false x13 x12) fun x16 =>
 (∃ t, x16 = .bool t) ∧ (x16 = .bool true →
 Ask (rIad X.P 28 x7 x13) fun x17 =>
 AskO X w15 [] (kb95_2 b0 b1 x3 x14) true (Op.store 29 (Operand.tmp 28) (Operand.tmp 27)) 0 [(28, x17), (27, x14)] fun _ w18 =>
 Ask (rGen X.P (Op.makeInterface 29 (Operand.tmp 29)) 20 [(29, x14)]) fun x19 =>
 AskI X x19 "Mul" [x3] fun x20 =>
 Ask (rAgg 4 x20) fun x21 =>
 Ask (rBin X.P .add 3 false true x13 (J 1)) fun x22 =>
 Again X w18 [b1] [] fun w => I0 [x22, x21] w ∧ μ0 [x22, x21] w < μ0 [x13, x14] w15) ∧ (x16 = .bool false →
 Ret X w15 [] [] (.tuple #[x7, (J 0)])))) := by kernel_rfl
def cPws : Contract := fnW (Cods.cons cS (Cods.cons cJn' Cods.nil)) (fun p _ => p.2.1 ≤ 1024) (fun p w v w' => ∃ x, v = .tuple #[x, J 0] ∧ w'.ownsRow w.heap.size 29 4 x p.2.1 ((mapN (fp (rF p.1)) p.2.1).flatMap encF))
def Tpw : Table := (T0.add 216 cOneS).add 49 cqMul
theorem keepTpw : AllKeep Tryz.prog GT Tpw := (keepT0.add keepsOneS).add keepsqMul
theorem keepsPws : Keeps1 Tryz.prog GT 95 cPws := by
  refine keepsW (T := Tpw) (A := ann95) hMix keepTpw hGT (calls_of (by kernel_rfl)) (callsW_of (by kernel_rfl)) fun args ⟨a, n, _⟩ w0 hrd hpre hg => ?_
  obtain ⟨_, _, rfl, ⟨rfl, ha⟩, _, _, rfl, rfl, rfl⟩ := hrd
  dsimp only at ha hpre
  refine ⟨[.x (.v 0), .x (.v 1)], [], [], 3, env0 [S a, J n] w0, fun b => b, 0, rfl, rfl, fun X hX => mem_none hX rfl, fun X hP hS hw hX hR => ?_⟩
  subst hw; try dsimp only at hR
  rw [vc95 X]
  rw [ask_aggS]; intro b0 hb0
  rw [ask_lssN]
  rw [show decide (n < 0) = false by simp]
  refine a_G_on condsV1 ?_
  rw [ask_gtr, ask_pickF]
  refine a_ifD (fun h => by omega) fun _ => ?_
  refine a_make (n := n) hX hP tySI (by simp [argsFn]) (by simp [argsFn]) (by omega) (by unfold maxLen; omega) fun g u1 w1 h1 k1 s1 su1 o1 => ?_
  have mk : (madeCells (Value.agg #[U 0, U 0, U 0, U 0]).cells (n * 4)).toList = (List.replicate n (0 : F)).flatMap encF := made_enc (α := F) (enc := encF) (a := 0) (s := 4) (by kernel_rfl) rfl (by decide) n
  rw [mk, ← padF_zero (fp (rF a))] at o1
  rw [ask_makeIn (by rw [hP]; exact makeISc _)]
  refine call_I hP hS (T := Tpw) (f := 216) rfl a (methOne a) ha ?_
  rw [ask_zero4]; intro b1 hb1
  rw [show S 1 = S (fp (rF a) 0).val from rfl, ask_aggS]
  refine a_len hP tySI (own_slAt o1) ?_
  have l1 : b0 < u1.heap.size := h1.low (by simp [kb95_0])
  refine ⟨fun q w => ∃ i, q = [J i, S (fp (rF a) i).val] ∧ i ≤ n ∧ Kn X w ∧ w.ownsRow u1.heap.size 29 4 (.slice (some ⟨g, 0, none⟩) n n) n ((padF (fp (rF a)) i n).flatMap encF), fun q _ => match q with | i :: _ => n - intNat i | _ => 0, fun w hw => ⟨0, rfl, Nat.zero_le _, hw.kn, own_stp o1 hw.stp fun q hq hm => ?_⟩, ?_⟩
  · have := (o1.lt q hq).2
    simp at hm; omega
  rintro _ _ w ⟨i, he, hi, hk, ho⟩
  simp only [List.cons.injEq, and_true] at he
  obtain ⟨rfl, rfl⟩ := he
  rw [ask_lssN]
  refine a_ifD (fun hlt => ?_) fun hge => ?_
  · refine a_iadN hP tySI (own_slAt ho) hlt ?_
    have gb : ∀ g', (Value.slice (some ⟨g, 0, none⟩) n n).ownBlock = some g' → u1.heap.size ≤ g' ∧ g' < w1.heap.size := fun g' hg' => o1.lt g' hg'
    refine a_store (vs := encF (fp (rF a) i)) hX hP szS rfl rfl rfl rfl (one_encF _) ho h1.sz0 (by omega) (by decide) (fun _ _ => List.not_mem_nil) (fun w4 hw4 g' hg' hm => by
      have := gb g' hg'
      simp only [kb95_2, List.map_cons, List.map_nil, List.mem_cons, List.not_mem_nil, or_false] at hm
      omega) fun _ w2 w3 h3 k3 s3 su3 o3 => ?_
    rw [lset_flat encF_len _ _ _ (by rw [padF_len]; exact hlt), padF_set] at o3
    rw [ask_makeIn (by rw [hP]; exact makeISc _)]
    refine call_I hP hS (T := Tpw) (f := 49) rfl ((fp (rF a) i).val, a) (methMul _ _) ⟨val_lt _, ha⟩ ?_
    dsimp only
    rw [rF_val, ask_aggS, ask_succ (by omega)]
    intro w5 hw5
    refine ⟨⟨i + 1, rfl, hlt, hw5.kn, own_stp o3 hw5.stp fun q hq hm => ?_⟩, by simp [intNat]; omega⟩
    have := gb q hq
    simp at hm; omega
  · obtain rfl : i = n := by omega
    rw [padF_full] at ho
    exact hR _ _ _ _ fun w hw => ⟨_, rfl, own_mono (own_stp0 ho hw.stp) h1.sz0⟩
/-! ### the weights' func values -/
theorem cell_stp {ex : List Nat} {u w : World} {b o : Nat} {v : Value} (h : u.cell? ⟨b, o, none⟩ = some v) (hs : Stp ex u w) (hb : b ∉ ex) : w.cell? ⟨b, o, none⟩ = some v := by
  rw [World.cell?_of_block (w := u) (hs.past b (World.block_lt_of_cell? u _ h) hb)]; exact h
theorem a_ldc {X : Ctx} {u : World} {ow : List Nat} {K : Value → Prop} {t : TypeId} {b o : Nat} {v : Value} (hk : Kn X u) (ht : agg? X.P t = some false) (hc : u.cell? ⟨b, o, none⟩ = some v) (how : b ∉ ow) (hK : K v) : Ask (rLoad X u ow t (.pointer (some ⟨b, o, none⟩))) K := by
  rw [ask_load_one ht (World.block_lt_of_cell? u _ hc) how hc hk.some]; exact hK
theorem aggLS : agg? Tryz.prog 28 = some false := by kernel_rfl
theorem aggIn : agg? Tryz.prog 3 = some false := by kernel_rfl
abbrev Pt (b : Nat) : Value := .pointer (some ⟨b, 0, none⟩)
/-- A variable that holds a list. -/
def cVF : Cod (List F) := ⟨fun w v l => ∃ b x, v = Pt b ∧ w.cell? ⟨b, 0, none⟩ = some x ∧ LsF w x l, fun w v l l' ⟨b, x, e, hc, hl⟩ ⟨b', x', e', hc', hl'⟩ => by
  rw [e] at e'
  cases e'
  rw [hc] at hc'
  cases hc'
  exact cLF.inj _ _ _ _ hl hl'⟩
def ann96 : Ann := ⟨[], [], 70, [], [3], none, [], []⟩
theorem vc96 (X : Ctx) (β : Nat → Nat) (x0 x1 : Value) : (run Tryz.prog ann96 96 [.x (.v 0), .x (.v 1)] [] [] 3).den X (env0 [x0, x1] X.w0) 3 β 0 (fun _ _ _ => False) = (
 Ask (rAgg 4 (.agg #[(U 0), (U 0), (U 0), (U 0)])) fun _ =>
 AskNew X.w0 fun b0 =>
 Ask (rLoad X X.w0 [] 28 x1) fun x4 =>
 Ask (rBin X.P .add 3 true false (J 2) x0) fun x5 =>
 Ask (rIad X.P 28 x4 x5) fun x6 =>
 Ask (rLoad X X.w0 [] 29 x6) fun x7 =>
 Ask (rAgg 4 x7) fun x8 =>
 Ret X X.w0 [b0] [] x8) := by kernel_rfl
def cW1 : Contract := fnW (Cods.cons cJn' (Cods.cons cVF Cods.nil)) (fun p _ => 2 + p.1 < p.2.1.length ∧ p.1 < 2 ^ 62) (fun p _ v _ => v = S (p.2.1.getD (2 + p.1) 0).val)
theorem keepsW1 : Keeps1 Tryz.prog GT 96 cW1 := by
  refine keepsW (T := T0) (A := ann96) hMix keepT0 hGT (calls_of (by kernel_rfl)) (callsW_of (by kernel_rfl)) fun args ⟨i, l, _⟩ w0 hrd hpre hg => ?_
  obtain ⟨_, _, rfl, rfl, _, _, rfl, ⟨b, x, rfl, hc, hl⟩, rfl⟩ := hrd
  obtain ⟨h1, h2⟩ := hpre
  dsimp only at h1 h2 hl hc
  refine ⟨[.x (.v 0), .x (.v 1)], [], [], 3, env0 [J i, Pt b] w0, fun b => b, 0, rfl, rfl, fun X hX => mem_none hX rfl, fun X hP hS hw hX hR => ?_⟩
  subst hw; try dsimp only at hR
  rw [vc96 X]
  rw [ask_zero4]; intro b0 hb0
  refine a_ldc (kn0 X) (by rw [hP]; exact aggLS) hc List.not_mem_nil ?_
  rw [ask_addN (by omega)]
  refine ld_SF hP (kn0 X) hl.1 rfl h1 (fun _ _ => List.not_mem_nil) ?_
  rw [ask_aggS]
  exact hR _ _ _ _ fun _ _ => rfl
def ann97 : Ann := ⟨[], [], 70, [], [3], none, [], []⟩
theorem vc97 (X : Ctx) (β : Nat → Nat) (x0 x1 : Value) : (run Tryz.prog ann97 97 [.x (.v 0), .x (.v 1)] [] [] 3).den X (env0 [x0, x1] X.w0) 3 β 0 (fun _ _ _ => False) = (
 Ask (rAgg 4 (.agg #[(U 0), (U 0), (U 0), (U 0)])) fun _ =>
 AskNew X.w0 fun b0 =>
 Ask (rLoad X X.w0 [] 28 x1) fun x4 =>
 Ask (rIad X.P 28 x4 x0) fun x5 =>
 Ask (rLoad X X.w0 [] 29 x5) fun x6 =>
 Ask (rAgg 4 x6) fun x7 =>
 Ret X X.w0 [b0] [] x7) := by kernel_rfl
def cW2 : Contract := fnW (Cods.cons cJn' (Cods.cons cVF Cods.nil)) (fun p _ => p.1 < p.2.1.length) (fun p _ v _ => v = S (p.2.1.getD p.1 0).val)
theorem keepsW2 : Keeps1 Tryz.prog GT 97 cW2 := by
  refine keepsW (T := T0) (A := ann97) hMix keepT0 hGT (calls_of (by kernel_rfl)) (callsW_of (by kernel_rfl)) fun args ⟨i, l, _⟩ w0 hrd hpre hg => ?_
  obtain ⟨_, _, rfl, rfl, _, _, rfl, ⟨b, x, rfl, hc, hl⟩, rfl⟩ := hrd
  dsimp only at hpre hl hc
  refine ⟨[.x (.v 0), .x (.v 1)], [], [], 3, env0 [J i, Pt b] w0, fun b => b, 0, rfl, rfl, fun X hX => mem_none hX rfl, fun X hP hS hw hX hR => ?_⟩
  subst hw; try dsimp only at hR
  rw [vc97 X]
  rw [ask_zero4]; intro b0 hb0
  refine a_ldc (kn0 X) (by rw [hP]; exact aggLS) hc List.not_mem_nil ?_
  refine ld_SF hP (kn0 X) hl.1 rfl hpre (fun _ _ => List.not_mem_nil) ?_
  rw [ask_aggS]
  exact hR _ _ _ _ fun _ _ => rfl
abbrev Fv (bz : Nat) : Value := .func (.func 96) #[] #[Pt bz]
abbrev Fy (b : Nat) : Value := .func (.func 97) #[] #[Pt b]
abbrev Fb (bv bp bt : Nat) : Value := .func (.func 98) #[] #[Pt bv, Pt bp, Pt bt]
def cW3a : Cods (Nat × List F × Nat × List F) := ⟨fun w a q => ∃ bv bp bt bz xz xt, a = [J q.1, Pt bv, Pt bp, Pt bt] ∧ w.cell? ⟨bv, 0, none⟩ = some (Fv bz) ∧ w.cell? ⟨bz, 0, none⟩ = some xz ∧ LsF w xz q.2.1 ∧ w.cell? ⟨bp, 0, none⟩ = some (J q.2.2.1) ∧ w.cell? ⟨bt, 0, none⟩ = some xt ∧ LsF w xt q.2.2.2,
  fun w a ⟨i, zs, m, ts⟩ ⟨i', zs', m', ts'⟩ ⟨bv, bp, bt, bz, xz, xt, e, h1, h2, h3, h4, h5, h6⟩ ⟨bv', bp', bt', bz', xz', xt', e', h1', h2', h3', h4', h5', h6'⟩ => by
    rw [e] at e'
    simp only [List.cons.injEq, Value.pointer.injEq, Option.some.injEq, Addr.mk.injEq, and_true] at e'
    obtain ⟨e0, rfl, rfl, rfl⟩ := e'
    have e0 := J_injI e0
    try dsimp only at e0
    subst e0
    rw [h1] at h1'
    simp only [Option.some.injEq, Value.func.injEq, true_and, Array.mk.injEq, List.cons.injEq, Value.pointer.injEq, Addr.mk.injEq, and_true] at h1'
    subst h1'
    rw [h2] at h2'
    cases h2'
    rw [h5] at h5'
    cases h5'
    rw [h4] at h4'
    have e4 : m = m' := J_injI (Option.some.inj h4')
    have e5 : zs = zs' := cLF.inj _ _ _ _ h3 h3'
    have e6 : ts = ts' := cLF.inj _ _ _ _ h6 h6'
    rw [e4, e5, e6]⟩
def cW3 : Contract := fnW cW3a (fun p _ => 0 < p.2.2.1 ∧ 2 + p.1 / p.2.2.1 < p.2.1.length ∧ p.1 % p.2.2.1 < p.2.2.2.length ∧ p.1 < 2 ^ 62) (fun p _ v _ => v = S (p.2.1.getD (2 + p.1 / p.2.2.1) 0 * p.2.2.2.getD (p.1 % p.2.2.1) 0).val)
def ann98 : Ann := ⟨[], [49], 70, [], [5], some false, [], []⟩
def kb98_0 (b0 : Nat) (x5 : Value) : List KB := [⟨b0, true, 29, (aggArr x5)⟩]
theorem vc98 (X : Ctx) (β : Nat → Nat) (x0 x1 x2 x3 : Value) : (run Tryz.prog ann98 98 [.x (.v 0), .x (.v 1), .x (.v 2), .x (.v 3)] [] [] 5).den X (env0 [x0, x1, x2, x3] X.w0) 5 β 0 (fun _ _ _ => False) = (
 Ask (rAgg 4 (.agg #[(U 0), (U 0), (U 0), (U 0)])) fun x5 =>
 AskNew X.w0 fun b0 =>
 Ask (rLoad X X.w0 [] 110 x1) fun x6 =>
 Ask (rFad X.P 45 x2 0) fun x7 =>
 Ask (rLoad X X.w0 [] 3 x7) fun x8 =>
 Ask (rBin X.P .quo 3 false false x0 x8) fun x9 =>
 AskV X X.w0 [] (kb98_0 b0 x5) false x6 [x9] fun x10 w10 =>
 Ask (rLoad X X.w0 [] 28 x3) fun x11 =>
 Ask (rFad X.P 45 x2 0) fun x12 =>
 Ask (rLoad X X.w0 [] 3 x12) fun x13 =>
 Ask (rBin X.P .rem 3 false false x0 x13) fun x14 =>
 Ask (rIad X.P 28 x11 x14) fun x15 =>
 Ask (rLoad X X.w0 [] 29 x15) fun x16 =>
 AskF X 49 [x10, x16] fun x17 =>
 Ask (rAgg 4 x17) fun x18 =>
 Ret X w10 [b0] [] x18) := by kernel_rfl
def Tw3 : Table := (T0.add 96 cW1).add 49 cqMul
theorem keepTw3 : AllKeep Tryz.prog GT Tw3 := (keepT0.add keepsW1).add keepsqMul
theorem fdPB : FdTy Tryz.prog 45 0 0 := ⟨0, by kernel_rfl⟩
theorem keepsW3 : Keeps1 Tryz.prog GT 98 cW3 := by
  refine keepsW (T := Tw3) (A := ann98) hMix keepTw3 hGT (calls_of (by kernel_rfl)) (callsW_of (by kernel_rfl)) fun args ⟨i, zs, m, ts⟩ w0 hrd hpre hg => ?_
  obtain ⟨bv, bp, bt, bz, xz, xt, rfl, h1, h2, h3, h4, h5, h6⟩ := hrd
  obtain ⟨q1, q2, q3, q4⟩ := hpre
  dsimp only at h3 h4 h6 q1 q2 q3 q4
  refine ⟨[.x (.v 0), .x (.v 1), .x (.v 2), .x (.v 3)], [], [], 5, env0 [J i, Pt bv, Pt bp, Pt bt] w0, fun b => b, 0, rfl, rfl, fun X hX => mem_none hX rfl, fun X hP hS hw hX hR => ?_⟩
  subst hw; try dsimp only at hR
  rw [vc98 X]
  rw [ask_zero4]; intro b0 hb0
  refine a_ldc (kn0 X) (by rw [hP]; kernel_rfl) h1 List.not_mem_nil ?_
  refine a_fadP hP fdPB ?_
  refine a_ldc (kn0 X) (by rw [hP]; exact aggIn) h4 List.not_mem_nil ?_
  have hd : i / m ≤ i := Nat.div_le_self _ _
  rw [ask_quoN q1 (by omega)]
  refine call_V hX hS rfl (fun args w => by rw [hP]; exact enters_of (by kernel_rfl) args w) (T := Tw3) (f := 96) rfl (i / m, zs, ()) (fun w hw => ⟨⟨_, _, rfl, rfl, _, _, rfl, ⟨bz, xz, rfl, cell_stp h2 hw.stp List.not_mem_nil, h3.stp0 hw.stp⟩, rfl⟩, q2, show i / m < 2 ^ 62 by omega⟩) fun v w w' hw hk hs hsu hp => ?_
  dsimp only at hp
  subst hp
  refine a_ldc (kn0 X) (by rw [hP]; exact aggLS) h5 List.not_mem_nil ?_
  refine a_fadP hP fdPB ?_
  refine a_ldc (kn0 X) (by rw [hP]; exact aggIn) h4 List.not_mem_nil ?_
  rw [ask_remN q1]
  refine ld_SF hP (kn0 X) h6.1 rfl q3 (fun _ _ => List.not_mem_nil) ?_
  refine call_PE hS (T := Tw3) (f := 49) rfl (_, _) ⟨val_lt _, val_lt _⟩ ?_
  dsimp only
  rw [rF_val, rF_val, ask_aggS]
  exact hR _ _ _ _ fun _ _ => rfl
def ann46 : Ann := ⟨[], [23, 28], 70, [(95, false)], [4, 5], none, [1000007, 1000011], []⟩
def kb46_0 (b0 b1 b2 b3 : Nat) (x0 x1 x5 x6 : Value) : List KB := [⟨b0, true, 45, #[x0, x1]⟩, ⟨b1, true, 29, (aggArr x5)⟩, ⟨b2, true, 29, (aggArr x6)⟩, ⟨b3, true, 112, #[.nilFunc, .nilFunc, .nilFunc]⟩]
def kb46_1 (b0 b1 b2 b3 b4 : Nat) (x0 x1 x5 x6 x11 : Value) : List KB := [⟨b0, true, 45, #[x0, x1]⟩, ⟨b1, true, 29, (aggArr x5)⟩, ⟨b2, true, 29, (aggArr x6)⟩, ⟨b3, true, 112, #[.nilFunc, .nilFunc, .nilFunc]⟩, ⟨b4, true, 28, #[x11]⟩]
def kb46_2 (b0 b1 b2 b3 b4 b5 : Nat) (x0 x1 x5 x6 x11 x16 : Value) : List KB := [⟨b0, true, 45, #[x0, x1]⟩, ⟨b1, true, 29, (aggArr x5)⟩, ⟨b2, true, 29, (aggArr x6)⟩, ⟨b3, true, 112, #[.nilFunc, .nilFunc, .nilFunc]⟩, ⟨b4, true, 28, #[x11]⟩, ⟨b5, true, 28, #[x16]⟩]
def kb46_3 (b0 b1 b2 b3 b4 b5 b6 b7 : Nat) (x0 x1 x5 x6 x29 x30 x31 x11 x16 x21 x23 : Value) : List KB := [⟨b0, true, 45, #[x0, x1]⟩, ⟨b1, true, 29, (aggArr x5)⟩, ⟨b2, true, 29, (aggArr x6)⟩, ⟨b3, true, 112, #[x29, x30, x31]⟩, ⟨b4, true, 28, #[x11]⟩, ⟨b5, true, 28, #[x16]⟩, ⟨b6, true, 28, #[x21]⟩, ⟨b7, true, 110, #[x23]⟩]
def kb46_4 (b0 b1 b2 b3 b4 b5 b6 : Nat) (x0 x1 x5 x6 x11 x16 : Value) : List KB := [⟨b0, true, 45, #[x0, x1]⟩, ⟨b1, true, 29, (aggArr x5)⟩, ⟨b2, true, 29, (aggArr x6)⟩, ⟨b3, true, 112, #[.nilFunc, .nilFunc, .nilFunc]⟩, ⟨b4, true, 28, #[x11]⟩, ⟨b5, true, 28, #[x16]⟩, ⟨b6, true, 28, #[(.slice none 0 0)]⟩]
def kb46_5 (b0 b1 b2 b3 b4 : Nat) (x0 x1 x5 x6 : Value) : List KB := [⟨b0, true, 45, #[x0, x1]⟩, ⟨b1, true, 29, (aggArr x5)⟩, ⟨b2, true, 29, (aggArr x6)⟩, ⟨b3, true, 112, #[.nilFunc, .nilFunc, .nilFunc]⟩, ⟨b4, true, 28, #[(.slice none 0 0)]⟩]
theorem vc46 (X : Ctx) (β : Nat → Nat) (x0 x1 x2 x3 : Value) : (run Tryz.prog ann46 46 [.l [.v 0, .v 1], .x (.v 2), .x (.v 3)] [] [] 5).den X (env0 [x0, x1, x2, x3] X.w0) 5 β 0 (fun _ _ _ => False) = (
 AskNew X.w0 fun b0 =>
 Ask (rAgg 4 x2) fun x5 =>
 AskNew X.w0 fun b1 =>
 Ask (rAgg 4 x3) fun x6 =>
 AskNew X.w0 fun b2 =>
 AskNew X.w0 fun b3 =>
 ((
 AskF X 23 [(.agg #[x0, x1])] fun x7 =>
 AskW X X.w0 [] (kb46_0 b0 b1 b2 b3 x0 x1 x5 x6) false 95 [x5, x7] fun x8 w8 =>
 Ask (rExt X.P x8 0) fun x9 =>
 Ask (rExt X.P x8 1) fun _ =>
 AskNew w8 fun b4 =>
 Ask (rPlain x9) fun x11 =>
 Ask (rBin X.P .add 3 false true x1 (J 2)) fun x12 =>
 AskW X w8 [b4] (kb46_1 b0 b1 b2 b3 b4 x0 x1 x5 x6 x11) false 95 [x6, x12] fun x13 w13 =>
 Ask (rExt X.P x13 0) fun x14 =>
 Ask (rExt X.P x13 1) fun _ =>
 AskNew w13 fun b5 =>
 Ask (rPlain x14) fun x16 =>
 ((
 AskF X 28 [(U 2)] fun x17 =>
 AskW X w13 [b5] (kb46_2 b0 b1 b2 b3 b4 b5 x0 x1 x5 x6 x11 x16) false 95 [x17, x0] fun x18 w18 =>
 Ask (rExt X.P x18 0) fun x19 =>
 Ask (rExt X.P x18 1) fun _ =>
 AskNew w18 fun b6 =>
 Ask (rPlain x19) fun x21 =>
 Ask (rGen X.P (Op.makeFunc (Fn.func 96) #[] #[Operand.tmp 9]) 110 [(9, (.pointer (some ⟨b5, 0, none⟩)))]) fun x22 =>
 AskNew w18 fun b7 =>
 Ask (rPlain x22) fun x23 =>
 Ask (rGen X.P (Op.makeFunc (Fn.func 97) #[] #[Operand.tmp 7]) 110 [(7, (.pointer (some ⟨b4, 0, none⟩)))]) fun x24 =>
 Ask (rGen X.P (Op.makeFunc (Fn.func 98) #[] #[Operand.tmp 13, Operand.tmp 3, Operand.tmp 11]) 110 [(13, (.pointer (some ⟨b7, 0, none⟩))), (3, (.pointer (some ⟨b0, 0, none⟩))), (11, (.pointer (some ⟨b6, 0, none⟩)))]) fun x25 =>
 Ask (rPlain x24) fun x26 =>
 Ask (rPlain x25) fun x27 =>
 Ask (rPlain x23) fun x28 =>
 Ask (rPlain x26) fun x29 =>
 Ask (rPlain x27) fun x30 =>
 Ask (rPlain x28) fun x31 =>
 Ret X w18 [b3, b7, b6] (kb46_3 b0 b1 b2 b3 b4 b5 b6 b7 x0 x1 x5 x6 x29 x30 x31 x11 x16 x21 x23) (.agg #[x29, x30, x31])) ∧ (
 AskNew w13 fun b6 =>
 AskF X 28 [(U 2)] fun x17 =>
 AskW X w13 [b5] (kb46_4 b0 b1 b2 b3 b4 b5 b6 x0 x1 x5 x6 x11 x16) false 95 [x17, x0] fun x18 w18 =>
 Ask (rExt X.P x18 0) fun x19 =>
 Ask (rExt X.P x18 1) fun _ =>
 Ask (rPlain x19) fun x21 =>
 Ask (rGen X.P (Op.makeFunc (Fn.func 96) #[] #[Operand.tmp 9]) 110 [(9, (.pointer (some ⟨b5, 0, none⟩)))]) fun x22 =>
 AskNew w18 fun b7 =>
 Ask (rPlain x22) fun x23 =>
 Ask (rGen X.P (Op.makeFunc (Fn.func 97) #[] #[Operand.tmp 7]) 110 [(7, (.pointer (some ⟨b4, 0, none⟩)))]) fun x24 =>
 Ask (rGen X.P (Op.makeFunc (Fn.func 98) #[] #[Operand.tmp 13, Operand.tmp 3, Operand.tmp 11]) 110 [(13, (.pointer (some ⟨b7, 0, none⟩))), (3, (.pointer (some ⟨b0, 0, none⟩))), (11, (.pointer (some ⟨b6, 0, none⟩)))]) fun x25 =>
 Ask (rPlain x24) fun x26 =>
 Ask (rPlain x25) fun x27 =>
 Ask (rPlain x23) fun x28 =>
 Ask (rPlain x26) fun x29 =>
 Ask (rPlain x27) fun x30 =>
 Ask (rPlain x28) fun x31 =>
 Ret X w18 [b3, b7, b6] (kb46_3 b0 b1 b2 b3 b4 b5 b6 b7 x0 x1 x5 x6 x29 x30 x31 x11 x16 x21 x23) (.agg #[x29, x30, x31])))) ∧ (
 AskNew X.w0 fun b4 =>
 AskF X 23 [(.agg #[x0, x1])] fun x7 =>
 AskW X X.w0 [] (kb46_5 b0 b1 b2 b3 b4 x0 x1 x5 x6) false 95 [x5, x7] fun x8 w8 =>
 Ask (rExt X.P x8 0) fun x9 =>
 Ask (rExt X.P x8 1) fun _ =>
 Ask (rPlain x9) fun x11 =>
 Ask (rBin X.P .add 3 false true x1 (J 2)) fun x12 =>
 AskW X w8 [b4] (kb46_1 b0 b1 b2 b3 b4 x0 x1 x5 x6 x11) false 95 [x6, x12] fun x13 w13 =>
 Ask (rExt X.P x13 0) fun x14 =>
 Ask (rExt X.P x13 1) fun _ =>
 AskNew w13 fun b5 =>
 Ask (rPlain x14) fun x16 =>
 ((
 AskF X 28 [(U 2)] fun x17 =>
 AskW X w13 [b5] (kb46_2 b0 b1 b2 b3 b4 b5 x0 x1 x5 x6 x11 x16) false 95 [x17, x0] fun x18 w18 =>
 Ask (rExt X.P x18 0) fun x19 =>
 Ask (rExt X.P x18 1) fun _ =>
 AskNew w18 fun b6 =>
 Ask (rPlain x19) fun x21 =>
 Ask (rGen X.P (Op.makeFunc (Fn.func 96) #[] #[Operand.tmp 9]) 110 [(9, (.pointer (some ⟨b5, 0, none⟩)))]) fun x22 =>
 AskNew w18 fun b7 =>
 Ask (rPlain x22) fun x23 =>
 Ask (rGen X.P (Op.makeFunc (Fn.func 97) #[] #[Operand.tmp 7]) 110 [(7, (.pointer (some ⟨b4, 0, none⟩)))]) fun x24 =>
 Ask (rGen X.P (Op.makeFunc (Fn.func 98) #[] #[Operand.tmp 13, Operand.tmp 3, Operand.tmp 11]) 110 [(13, (.pointer (some ⟨b7, 0, none⟩))), (3, (.pointer (some ⟨b0, 0, none⟩))), (11, (.pointer (some ⟨b6, 0, none⟩)))]) fun x25 =>
 Ask (rPlain x24) fun x26 =>
 Ask (rPlain x25) fun x27 =>
 Ask (rPlain x23) fun x28 =>
 Ask (rPlain x26) fun x29 =>
 Ask (rPlain x27) fun x30 =>
 Ask (rPlain x28) fun x31 =>
 Ret X w18 [b3, b7, b6] (kb46_3 b0 b1 b2 b3 b4 b5 b6 b7 x0 x1 x5 x6 x29 x30 x31 x11 x16 x21 x23) (.agg #[x29, x30, x31])) ∧ (
 AskNew w13 fun b6 =>
 AskF X 28 [(U 2)] fun x17 =>
 AskW X w13 [b5] (kb46_4 b0 b1 b2 b3 b4 b5 b6 x0 x1 x5 x6 x11 x16) false 95 [x17, x0] fun x18 w18 =>
 Ask (rExt X.P x18 0) fun x19 =>
 Ask (rExt X.P x18 1) fun _ =>
 Ask (rPlain x19) fun x21 =>
 Ask (rGen X.P (Op.makeFunc (Fn.func 96) #[] #[Operand.tmp 9]) 110 [(9, (.pointer (some ⟨b5, 0, none⟩)))]) fun x22 =>
 AskNew w18 fun b7 =>
 Ask (rPlain x22) fun x23 =>
 Ask (rGen X.P (Op.makeFunc (Fn.func 97) #[] #[Operand.tmp 7]) 110 [(7, (.pointer (some ⟨b4, 0, none⟩)))]) fun x24 =>
 Ask (rGen X.P (Op.makeFunc (Fn.func 98) #[] #[Operand.tmp 13, Operand.tmp 3, Operand.tmp 11]) 110 [(13, (.pointer (some ⟨b7, 0, none⟩))), (3, (.pointer (some ⟨b0, 0, none⟩))), (11, (.pointer (some ⟨b6, 0, none⟩)))]) fun x25 =>
 Ask (rPlain x24) fun x26 =>
 Ask (rPlain x25) fun x27 =>
 Ask (rPlain x23) fun x28 =>
 Ask (rPlain x26) fun x29 =>
 Ask (rPlain x27) fun x30 =>
 Ask (rPlain x28) fun x31 =>
 Ret X w18 [b3, b7, b6] (kb46_3 b0 b1 b2 b3 b4 b5 b6 b7 x0 x1 x5 x6 x29 x30 x31 x11 x16 x21 x23) (.agg #[x29, x30, x31])))))) := by kernel_rfl
/-- Weights, in variables of their own. -/
structure WtsAt (lo hi : Nat) (w : World) (ys zs ts : List F) (m cy cz cp ct cv : Nat) (xy xz xt : Value) : Prop where
  hy : w.cell? ⟨cy, 0, none⟩ = some xy
  hz : w.cell? ⟨cz, 0, none⟩ = some xz
  ht : w.cell? ⟨ct, 0, none⟩ = some xt
  hp : w.cell? ⟨cp, 0, none⟩ = some (J m)
  hv : w.cell? ⟨cv, 0, none⟩ = some (Fv cz)
  ly : LsF w xy ys
  lz : LsF w xz zs
  lt : LsF w xt ts
  cs : ∀ b ∈ [cy, cz, cp, ct, cv], lo ≤ b ∧ b < hi
  bs : ∀ x ∈ [xy, xz, xt], ∀ g, x.ownBlock = some g → lo ≤ g ∧ g < hi
theorem WtsAt.stp {lo hi : Nat} {w w' : World} {ys zs ts : List F} {m cy cz cp ct cv : Nat} {xy xz xt : Value} {ex : List Nat} (h : WtsAt lo hi w ys zs ts m cy cz cp ct cv xy xz xt) (hs : Stp ex w w') (he : ∀ b ∈ ex, b < lo ∨ hi ≤ b) : WtsAt lo hi w' ys zs ts m cy cz cp ct cv xy xz xt := by
  have c : ∀ {b : Nat}, b ∈ [cy, cz, cp, ct, cv] → b ∉ ex := fun hb hm => by
    have := h.cs _ hb; have := he _ hm; omega
  have g : ∀ {x : Value}, x ∈ [xy, xz, xt] → ∀ g, x.ownBlock = some g → g ∉ ex := fun hx g hg hm => by
    have := h.bs _ hx g hg; have := he _ hm; omega
  exact ⟨cell_stp h.hy hs (c (by simp)), cell_stp h.hz hs (c (by simp)), cell_stp h.ht hs (c (by simp)), cell_stp h.hp hs (c (by simp)), cell_stp h.hv hs (c (by simp)), h.ly.stp hs (g (by simp)), h.lz.stp hs (g (by simp)), h.lt.stp hs (g (by simp)), h.cs, h.bs⟩
theorem cell_kb {X : Ctx} {u w : World} {ow : List Nat} {bl : List KB} (hw : KnownV X u ow bl w) {b t : Nat} {cs : Array Value} {v : Value} (h : (⟨b, true, t, cs⟩ : KB) ∈ bl) (o : Nat) (hv : cs[o]? = some v) : w.cell? ⟨b, o, none⟩ = some v := by
  have := (hw.blk _ h).1
  simp only [if_true] at this
  simp [World.cell?, this, hv]
theorem ask_makeFn {P : Program} {K : Value → Prop} {f ty : Nat} {cs : Array Operand} {l : List (Nat × Value)} {ps : Array Value} (h : cs.map (argsFn l) = ps) : Ask (rGen P (.makeFunc (.func f) #[] cs) ty l) K = K (.func (.func f) #[] ps) :=
  ask_eq (runsN_iff fun w => by simp [execOp, Instr.makeFunc, h])
def cWgh : Contract := fnW (Cods.cons cPn (Cods.cons cS (Cods.cons cS Cods.nil))) (fun p _ => 0 < p.1.1 ∧ p.1.1 ≤ 64 ∧ p.1.2 ≤ 16)
  (fun p w v w' => ∃ cy cz cp ct cv xy xz xt, v = .agg #[Fy cy, Fb cv cp ct, Fv cz] ∧ WtsAt w.heap.size w'.heap.size w' (mapN (fp (rF p.2.1)) (p.1.1 * p.1.2)) (mapN (fp (rF p.2.2.1)) (p.1.2 + 2)) (mapN (fp (rF 2)) p.1.1) p.1.1 cy cz cp ct cv xy xz xt)
def Twg : Table := ((T0.add 95 cPws).add 23 cSize).add 28 cRInt
theorem keepTwg : AllKeep Tryz.prog GT Twg := ((keepT0.add keepsPws).add keepsSize).add keepsSInt
theorem lsF_own {w : World} {b n e : Nat} {x : Value} {l : List F} (h : w.ownsRow b e 4 x n (l.flatMap encF)) (hl : l.length = n) : LsF w x l := ⟨by rw [hl]; exact own_slAt h, fun _ _ => trivial⟩
theorem keepsWgh : Keeps1 Tryz.prog GT 46 cWgh := by
  refine keepsW (T := Twg) (A := ann46) hMix keepTwg hGT (calls_of (by kernel_rfl)) (callsW_of (by kernel_rfl)) fun args ⟨⟨m, n⟩, y, z, _⟩ w0 hrd hpre _ => ?_
  obtain ⟨_, _, rfl, rfl, _, _, rfl, ⟨rfl, hy⟩, _, _, rfl, ⟨rfl, hz⟩, rfl⟩ := hrd
  obtain ⟨hm0, hm1, hn1⟩ := hpre
  dsimp only at hm0 hm1 hn1 hy hz
  refine ⟨[.l [.v 0, .v 1], .x (.v 2), .x (.v 3)], [], [], 5, env0 [J m, J n, S y, S z] w0, fun b => b, 0, rfl, rfl, fun X hX => mem_none hX rfl, fun X hP hS hw hX hR => ?_⟩
  subst hw; try dsimp only at hR
  rw [vc46 X]
  have hN : m * n ≤ 1024 := Nat.le_trans (Nat.mul_le_mul hm1 hn1) (by decide)
  have pw : ∀ (a n : Nat) {u : World} {ow : List Nat} {bl : List KB} {K : Value → World → Prop}, a < W256 → n ≤ 1024 → (∀ x w w', KnownV X u ow bl w → Kn X w' → Stp [] w w' → Stp ow u w' → w'.ownsRow w.heap.size 29 4 x n ((mapN (fp (rF a)) n).flatMap encF) → K (.tuple #[x, J 0]) w') → AskW X u ow bl false 95 [S a, J n] K := fun a n u ow bl K ha hn hK => by
    refine call_W hX hS (T := Twg) (f := 95) rfl (a, n, ()) (fun w hw => ⟨⟨_, _, rfl, ⟨rfl, ha⟩, _, _, rfl, rfl, rfl⟩, hn⟩) fun v w w' hw hk hs hsu hp => ?_
    obtain ⟨x, rfl, ho⟩ := hp
    exact hK x w w' hw hk hs hsu ho
  intro b0 hb0
  rw [ask_aggS]; intro b1 hb1
  rw [ask_aggS]; intro b2 hb2 b3 hb3
  have size : ∀ {K' : Value → Prop}, K' (J (m * n)) → AskF X 23 [.agg #[J m, J n]] K' := fun hK => call_PE hS (T := Twg) (f := 23) rfl ((m : Int), (n : Int)) trivial (by dsimp only; rw [sizeI_nat (by omega)]; exact hK)
  refine ⟨?_, ?_⟩
  · refine size ?_
    refine pw y (m * n) hy hN fun xy u8 w8 h8 k8 s8 su8 oy => ?_
    rw [ask_ext0, ask_ext1]
    intro b4 hb4
    refine a_plain (own_one oy) ?_
    rw [ask_addN (by omega)]
    refine pw z (n + 2) hz (by omega) fun xz u13 w13 h13 k13 s13 su13 oz13 => ?_
    rw [ask_ext0, ask_ext1]
    intro b5 hb5
    refine a_plain (own_one oz13) ?_
    have low8 : ∀ {b : Nat}, b ∈ [b0, b1, b2, b3] → b < u8.heap.size := fun hb => h8.low (by simpa [kb46_0] using hb)
    have zs8 := s8.size; have zs13 := s13.size; have zu13 := h13.size; have zu8 := h8.size
    have l3 : b3 < u8.heap.size := low8 (by simp)
    have oy13 := own_stp oy su13 (fun g hg hm => by have := oy.lt g hg; simp at hm; omega)
    have yb3 : ∀ g, xy.ownBlock = some g → b3 < g := fun g hg => by have := oy.lt g hg; omega
    have zb3 : ∀ g, xz.ownBlock = some g → b3 < g := fun g hg => by have := oz13.lt g hg; omega
    have z4 : X.w0.heap.size ≤ b4 := by have := k8.sz0; omega
    have z5 : X.w0.heap.size ≤ b5 := by have := k13.sz0; omega
    refine ⟨?_, ?_⟩
    · refine call_PE hS (T := Twg) (f := 28) rfl 2 (by decide) ?_
      refine pw 2 m (by decide) (by omega) fun xt u18 w18 h18 k18 s18 su18 ot18 => ?_
      rw [ask_ext0, ask_ext1]
      intro b6 hb6
      refine a_plain (own_one ot18) ?_
      have low18 : ∀ {b : Nat}, b ∈ [b0, b1, b2, b3, b4, b5] → b < u18.heap.size := fun hb => h18.low (by simpa [kb46_2] using hb)
      have su18' : Stp [] w13 w18 := su18.drop (by simpa using hb5)
      have zs18 := s18.size
      have l3 : b3 < u18.heap.size := low18 (by simp)
      have yb6 : ∀ g, xy.ownBlock = some g → g < b6 := fun g hg => by have := (oy13.lt g hg); have := su18.size; omega
      have zb6 : ∀ g, xz.ownBlock = some g → g < b6 := fun g hg => by have := (oz13.lt g hg); have := su18.size; omega
      have tb6 : ∀ g, xt.ownBlock = some g → g ≠ b6 := fun g hg => by have := (ot18.lt g hg); omega
      have tb3 : ∀ g, xt.ownBlock = some g → b3 < g := fun g hg => by have := (ot18.lt g hg); omega
      have z6 : X.w0.heap.size ≤ b6 := by have := k18.sz0; omega
      rw [ask_makeFn (ps := #[Pt b5]) (by simp [argsFn])]
      intro b7 hb7
      refine a_plain rfl ?_
      rw [ask_makeFn (ps := #[Pt b4]) (by simp [argsFn]), ask_makeFn (ps := #[Pt b7, Pt b0, Pt b6]) (by simp [argsFn])]
      iterate 6 refine a_plain rfl ?_
      refine hR _ _ _ _ fun w hw => ?_
      have low : ∀ {b : Nat}, b ∈ [b0, b1, b2, b3, b4, b5, b6, b7] → b < w.heap.size := fun hb => hw.low (by simpa [kb46_3] using hb)
      have z18 := su18.size
      have zw := hw.size
      have oy18 := own_stp0 oy13 su18'
      have oz18 := own_stp0 oz13 su18'
      have ny : ∀ g, xy.ownBlock = some g → g ∉ [b3, b7, b6] := fun g hg hm => by
        have h1 := (oy18.lt g hg)
        have h2 := yb6 g hg
        have h3 := yb3 g hg
        simp only [List.mem_cons, List.not_mem_nil, or_false] at hm
        omega
      have nz : ∀ g, xz.ownBlock = some g → g ∉ [b3, b7, b6] := fun g hg hm => by
        have h1 := (oz18.lt g hg)
        have h2 := zb6 g hg
        have h3 := zb3 g hg
        simp only [List.mem_cons, List.not_mem_nil, or_false] at hm
        omega
      have nt : ∀ g, xt.ownBlock = some g → g ∉ [b3, b7, b6] := fun g hg hm => by
        have h1 := (ot18.lt g hg)
        have h2 := tb6 g hg
        have h3 := tb3 g hg
        simp only [List.mem_cons, List.not_mem_nil, or_false] at hm
        omega
      have oyw := own_stp oy18 hw.stp ny
      have ozw := own_stp oz18 hw.stp nz
      have otw := own_stp ot18 hw.stp nt
      refine ⟨b4, b5, b0, b6, b7, xy, xz, xt, rfl, cell_kb hw (List.mem_of_getElem? (i := 4) rfl) 0 rfl, cell_kb hw (List.mem_of_getElem? (i := 5) rfl) 0 rfl, cell_kb hw (List.mem_of_getElem? (i := 6) rfl) 0 rfl, cell_kb hw (List.mem_of_getElem? (i := 0) rfl) 0 rfl, cell_kb hw (List.mem_of_getElem? (i := 7) rfl) 0 rfl, lsF_own oyw (mapN_len _ _), lsF_own ozw (mapN_len _ _), lsF_own otw (mapN_len _ _), ?_, ?_⟩
      · intro b hb
        simp only [List.mem_cons, List.not_mem_nil, or_false] at hb
        refine ⟨by omega, low ?_⟩
        rcases hb with rfl | rfl | rfl | rfl | rfl <;> simp
      · intro x hx g hg
        simp only [List.mem_cons, List.not_mem_nil, or_false] at hx
        rcases hx with rfl | rfl | rfl
        · have := oyw.lt g hg; omega
        · have := ozw.lt g hg; omega
        · have := otw.lt g hg; omega
    · intro b6 hb6
      refine call_PE hS (T := Twg) (f := 28) rfl 2 (by decide) ?_
      refine pw 2 m (by decide) (by omega) fun xt u18 w18 h18 k18 s18 su18 ot18 => ?_
      rw [ask_ext0, ask_ext1]
      refine a_plain (own_one ot18) ?_
      have low18 : ∀ {b : Nat}, b ∈ [b0, b1, b2, b3, b4, b5, b6] → b < u18.heap.size := fun hb => h18.low (by simpa [kb46_4] using hb)
      have su18' : Stp [] w13 w18 := su18.drop (by simpa using hb5)
      have zs18 := s18.size
      have l3 : b3 < u18.heap.size := low18 (by simp)
      have l6 : b6 < u18.heap.size := low18 (by simp)
      have yb6 : ∀ g, xy.ownBlock = some g → g < b6 := fun g hg => by have := (oy13.lt g hg); omega
      have zb6 : ∀ g, xz.ownBlock = some g → g < b6 := fun g hg => by have := (oz13.lt g hg); omega
      have tb6 : ∀ g, xt.ownBlock = some g → g ≠ b6 := fun g hg => by have := (ot18.lt g hg); omega
      have tb3 : ∀ g, xt.ownBlock = some g → b3 < g := fun g hg => by have := (ot18.lt g hg); omega
      have z6 : X.w0.heap.size ≤ b6 := by have := k13.sz0; omega
      rw [ask_makeFn (ps := #[Pt b5]) (by simp [argsFn])]
      intro b7 hb7
      refine a_plain rfl ?_
      rw [ask_makeFn (ps := #[Pt b4]) (by simp [argsFn]), ask_makeFn (ps := #[Pt b7, Pt b0, Pt b6]) (by simp [argsFn])]
      iterate 6 refine a_plain rfl ?_
      refine hR _ _ _ _ fun w hw => ?_
      have low : ∀ {b : Nat}, b ∈ [b0, b1, b2, b3, b4, b5, b6, b7] → b < w.heap.size := fun hb => hw.low (by simpa [kb46_3] using hb)
      have z18 := su18.size
      have zw := hw.size
      have oy18 := own_stp0 oy13 su18'
      have oz18 := own_stp0 oz13 su18'
      have ny : ∀ g, xy.ownBlock = some g → g ∉ [b3, b7, b6] := fun g hg hm => by
        have h1 := (oy18.lt g hg)
        have h2 := yb6 g hg
        have h3 := yb3 g hg
        simp only [List.mem_cons, List.not_mem_nil, or_false] at hm
        omega
      have nz : ∀ g, xz.ownBlock = some g → g ∉ [b3, b7, b6] := fun g hg hm => by
        have h1 := (oz18.lt g hg)
        have h2 := zb6 g hg
        have h3 := zb3 g hg
        simp only [List.mem_cons, List.not_mem_nil, or_false] at hm
        omega
      have nt : ∀ g, xt.ownBlock = some g → g ∉ [b3, b7, b6] := fun g hg hm => by
        have h1 := (ot18.lt g hg)
        have h2 := tb6 g hg
        have h3 := tb3 g hg
        simp only [List.mem_cons, List.not_mem_nil, or_false] at hm
        omega
      have oyw := own_stp oy18 hw.stp ny
      have ozw := own_stp oz18 hw.stp nz
      have otw := own_stp ot18 hw.stp nt
      refine ⟨b4, b5, b0, b6, b7, xy, xz, xt, rfl, cell_kb hw (List.mem_of_getElem? (i := 4) rfl) 0 rfl, cell_kb hw (List.mem_of_getElem? (i := 5) rfl) 0 rfl, cell_kb hw (List.mem_of_getElem? (i := 6) rfl) 0 rfl, cell_kb hw (List.mem_of_getElem? (i := 0) rfl) 0 rfl, cell_kb hw (List.mem_of_getElem? (i := 7) rfl) 0 rfl, lsF_own oyw (mapN_len _ _), lsF_own ozw (mapN_len _ _), lsF_own otw (mapN_len _ _), ?_, ?_⟩
      · intro b hb
        simp only [List.mem_cons, List.not_mem_nil, or_false] at hb
        refine ⟨by omega, low ?_⟩
        rcases hb with rfl | rfl | rfl | rfl | rfl <;> simp
      · intro x hx g hg
        simp only [List.mem_cons, List.not_mem_nil, or_false] at hx
        rcases hx with rfl | rfl | rfl
        · have := oyw.lt g hg; omega
        · have := ozw.lt g hg; omega
        · have := otw.lt g hg; omega
  · intro b4 hb4
    refine size ?_
    refine pw y (m * n) hy hN fun xy u8 w8 h8 k8 s8 su8 oy => ?_
    rw [ask_ext0, ask_ext1]
    refine a_plain (own_one oy) ?_
    rw [ask_addN (by omega)]
    refine pw z (n + 2) hz (by omega) fun xz u13 w13 h13 k13 s13 su13 oz13 => ?_
    rw [ask_ext0, ask_ext1]
    intro b5 hb5
    refine a_plain (own_one oz13) ?_
    have low8 : ∀ {b : Nat}, b ∈ [b0, b1, b2, b3, b4] → b < u8.heap.size := fun hb => h8.low (by simpa [kb46_5] using hb)
    have zs8 := s8.size; have zs13 := s13.size; have zu13 := h13.size; have zu8 := h8.size
    have l3 : b3 < u8.heap.size := low8 (by simp)
    have l4 : b4 < u8.heap.size := low8 (by simp)
    have oy13 := own_stp oy su13 (fun g hg hm => by have := oy.lt g hg; simp at hm; omega)
    have yb3 : ∀ g, xy.ownBlock = some g → b3 < g := fun g hg => by have := oy.lt g hg; omega
    have zb3 : ∀ g, xz.ownBlock = some g → b3 < g := fun g hg => by have := oz13.lt g hg; omega
    have z4 : X.w0.heap.size ≤ b4 := hb4
    have z5 : X.w0.heap.size ≤ b5 := by have := k13.sz0; omega
    refine ⟨?_, ?_⟩
    · refine call_PE hS (T := Twg) (f := 28) rfl 2 (by decide) ?_
      refine pw 2 m (by decide) (by omega) fun xt u18 w18 h18 k18 s18 su18 ot18 => ?_
      rw [ask_ext0, ask_ext1]
      intro b6 hb6
      refine a_plain (own_one ot18) ?_
      have low18 : ∀ {b : Nat}, b ∈ [b0, b1, b2, b3, b4, b5] → b < u18.heap.size := fun hb => h18.low (by simpa [kb46_2] using hb)
      have su18' : Stp [] w13 w18 := su18.drop (by simpa using hb5)
      have zs18 := s18.size
      have l3 : b3 < u18.heap.size := low18 (by simp)
      have yb6 : ∀ g, xy.ownBlock = some g → g < b6 := fun g hg => by have := (oy13.lt g hg); have := su18.size; omega
      have zb6 : ∀ g, xz.ownBlock = some g → g < b6 := fun g hg => by have := (oz13.lt g hg); have := su18.size; omega
      have tb6 : ∀ g, xt.ownBlock = some g → g ≠ b6 := fun g hg => by have := (ot18.lt g hg); omega
      have tb3 : ∀ g, xt.ownBlock = some g → b3 < g := fun g hg => by have := (ot18.lt g hg); omega
      have z6 : X.w0.heap.size ≤ b6 := by have := k18.sz0; omega
      rw [ask_makeFn (ps := #[Pt b5]) (by simp [argsFn])]
      intro b7 hb7
      refine a_plain rfl ?_
      rw [ask_makeFn (ps := #[Pt b4]) (by simp [argsFn]), ask_makeFn (ps := #[Pt b7, Pt b0, Pt b6]) (by simp [argsFn])]
      iterate 6 refine a_plain rfl ?_
      refine hR _ _ _ _ fun w hw => ?_
      have low : ∀ {b : Nat}, b ∈ [b0, b1, b2, b3, b4, b5, b6, b7] → b < w.heap.size := fun hb => hw.low (by simpa [kb46_3] using hb)
      have z18 := su18.size
      have zw := hw.size
      have oy18 := own_stp0 oy13 su18'
      have oz18 := own_stp0 oz13 su18'
      have ny : ∀ g, xy.ownBlock = some g → g ∉ [b3, b7, b6] := fun g hg hm => by
        have h1 := (oy18.lt g hg)
        have h2 := yb6 g hg
        have h3 := yb3 g hg
        simp only [List.mem_cons, List.not_mem_nil, or_false] at hm
        omega
      have nz : ∀ g, xz.ownBlock = some g → g ∉ [b3, b7, b6] := fun g hg hm => by
        have h1 := (oz18.lt g hg)
        have h2 := zb6 g hg
        have h3 := zb3 g hg
        simp only [List.mem_cons, List.not_mem_nil, or_false] at hm
        omega
      have nt : ∀ g, xt.ownBlock = some g → g ∉ [b3, b7, b6] := fun g hg hm => by
        have h1 := (ot18.lt g hg)
        have h2 := tb6 g hg
        have h3 := tb3 g hg
        simp only [List.mem_cons, List.not_mem_nil, or_false] at hm
        omega
      have oyw := own_stp oy18 hw.stp ny
      have ozw := own_stp oz18 hw.stp nz
      have otw := own_stp ot18 hw.stp nt
      refine ⟨b4, b5, b0, b6, b7, xy, xz, xt, rfl, cell_kb hw (List.mem_of_getElem? (i := 4) rfl) 0 rfl, cell_kb hw (List.mem_of_getElem? (i := 5) rfl) 0 rfl, cell_kb hw (List.mem_of_getElem? (i := 6) rfl) 0 rfl, cell_kb hw (List.mem_of_getElem? (i := 0) rfl) 0 rfl, cell_kb hw (List.mem_of_getElem? (i := 7) rfl) 0 rfl, lsF_own oyw (mapN_len _ _), lsF_own ozw (mapN_len _ _), lsF_own otw (mapN_len _ _), ?_, ?_⟩
      · intro b hb
        simp only [List.mem_cons, List.not_mem_nil, or_false] at hb
        refine ⟨by omega, low ?_⟩
        rcases hb with rfl | rfl | rfl | rfl | rfl <;> simp
      · intro x hx g hg
        simp only [List.mem_cons, List.not_mem_nil, or_false] at hx
        rcases hx with rfl | rfl | rfl
        · have := oyw.lt g hg; omega
        · have := ozw.lt g hg; omega
        · have := otw.lt g hg; omega
    · intro b6 hb6
      refine call_PE hS (T := Twg) (f := 28) rfl 2 (by decide) ?_
      refine pw 2 m (by decide) (by omega) fun xt u18 w18 h18 k18 s18 su18 ot18 => ?_
      rw [ask_ext0, ask_ext1]
      refine a_plain (own_one ot18) ?_
      have low18 : ∀ {b : Nat}, b ∈ [b0, b1, b2, b3, b4, b5, b6] → b < u18.heap.size := fun hb => h18.low (by simpa [kb46_4] using hb)
      have su18' : Stp [] w13 w18 := su18.drop (by simpa using hb5)
      have zs18 := s18.size
      have l3 : b3 < u18.heap.size := low18 (by simp)
      have l6 : b6 < u18.heap.size := low18 (by simp)
      have yb6 : ∀ g, xy.ownBlock = some g → g < b6 := fun g hg => by have := (oy13.lt g hg); omega
      have zb6 : ∀ g, xz.ownBlock = some g → g < b6 := fun g hg => by have := (oz13.lt g hg); omega
      have tb6 : ∀ g, xt.ownBlock = some g → g ≠ b6 := fun g hg => by have := (ot18.lt g hg); omega
      have tb3 : ∀ g, xt.ownBlock = some g → b3 < g := fun g hg => by have := (ot18.lt g hg); omega
      have z6 : X.w0.heap.size ≤ b6 := by have := k13.sz0; omega
      rw [ask_makeFn (ps := #[Pt b5]) (by simp [argsFn])]
      intro b7 hb7
      refine a_plain rfl ?_
      rw [ask_makeFn (ps := #[Pt b4]) (by simp [argsFn]), ask_makeFn (ps := #[Pt b7, Pt b0, Pt b6]) (by simp [argsFn])]
      iterate 6 refine a_plain rfl ?_
      refine hR _ _ _ _ fun w hw => ?_
      have low : ∀ {b : Nat}, b ∈ [b0, b1, b2, b3, b4, b5, b6, b7] → b < w.heap.size := fun hb => hw.low (by simpa [kb46_3] using hb)
      have z18 := su18.size
      have zw := hw.size
      have oy18 := own_stp0 oy13 su18'
      have oz18 := own_stp0 oz13 su18'
      have ny : ∀ g, xy.ownBlock = some g → g ∉ [b3, b7, b6] := fun g hg hm => by
        have h1 := (oy18.lt g hg)
        have h2 := yb6 g hg
        have h3 := yb3 g hg
        simp only [List.mem_cons, List.not_mem_nil, or_false] at hm
        omega
      have nz : ∀ g, xz.ownBlock = some g → g ∉ [b3, b7, b6] := fun g hg hm => by
        have h1 := (oz18.lt g hg)
        have h2 := zb6 g hg
        have h3 := zb3 g hg
        simp only [List.mem_cons, List.not_mem_nil, or_false] at hm
        omega
      have nt : ∀ g, xt.ownBlock = some g → g ∉ [b3, b7, b6] := fun g hg hm => by
        have h1 := (ot18.lt g hg)
        have h2 := tb6 g hg
        have h3 := tb3 g hg
        simp only [List.mem_cons, List.not_mem_nil, or_false] at hm
        omega
      have oyw := own_stp oy18 hw.stp ny
      have ozw := own_stp oz18 hw.stp nz
      have otw := own_stp ot18 hw.stp nt
      refine ⟨b4, b5, b0, b6, b7, xy, xz, xt, rfl, cell_kb hw (List.mem_of_getElem? (i := 4) rfl) 0 rfl, cell_kb hw (List.mem_of_getElem? (i := 5) rfl) 0 rfl, cell_kb hw (List.mem_of_getElem? (i := 6) rfl) 0 rfl, cell_kb hw (List.mem_of_getElem? (i := 0) rfl) 0 rfl, cell_kb hw (List.mem_of_getElem? (i := 7) rfl) 0 rfl, lsF_own oyw (mapN_len _ _), lsF_own ozw (mapN_len _ _), lsF_own otw (mapN_len _ _), ?_, ?_⟩
      · intro b hb
        simp only [List.mem_cons, List.not_mem_nil, or_false] at hb
        refine ⟨by omega, low ?_⟩
        rcases hb with rfl | rfl | rfl | rfl | rfl <;> simp
      · intro x hx g hg
        simp only [List.mem_cons, List.not_mem_nil, or_false] at hx
        rcases hx with rfl | rfl | rfl
        · have := oyw.lt g hg; omega
        · have := ozw.lt g hg; omega
        · have := otw.lt g hg; omega
#print axioms keepsWgh
end Go.Vc

/-
  What the program looks at first; sums over the generators.
-/
namespace Go.Vc
open Go Go.Proofs Go.RowKit
/-! ### the program's set, its tape -/
/-- A set: B, Blind, Q, G, H. -/
abbrev SetN : Type := Nat × Nat × Nat × List Nat × List Nat
def setL (p : SetN) (g h : Value) : List Value := encS p.1 ++ encS p.2.1 ++ encS p.2.2.1 ++ [g, h]
theorem setL_len (p : SetN) (g h : Value) : (setL p g h).length = 14 := rfl
theorem setL_one {p : SetN} {g h : Value} (hg : g.oneCell' = true) (hh : h.oneCell' = true) : (setL p g h).all (·.oneCell') = true := by
  simp only [setL, List.all_append, one_encS, List.all_cons, List.all_nil, hg, hh, Bool.and_true]
def okSet (p : SetN) : Prop := p.1 < W256 ∧ p.2.1 < W256 ∧ p.2.2.1 < W256
def cSetN : Cod SetN := ⟨fun w v p => okSet p ∧ ∃ g h, v = .agg (setL p g h).toArray ∧ cLS.rd w g p.2.2.2.1 ∧ cLS.rd w h p.2.2.2.2, fun w v ⟨b, bl, q, G, H⟩ ⟨b', bl', q', G', H'⟩ ⟨⟨o1, o2, o3⟩, g, h, e, hg, hh⟩ ⟨⟨o1', o2', o3'⟩, g', h', e', hg', hh'⟩ => by
  dsimp only at hg hh hg' hh' o1 o2 o3 o1' o2' o3'
  rw [e] at e'
  simp only [Value.agg.injEq] at e'
  have e' := congrArg Array.toList e'
  simp only [setL, List.append_assoc] at e'
  obtain ⟨e1, e'⟩ := List.append_inj e' rfl
  obtain ⟨e2, e'⟩ := List.append_inj e' rfl
  obtain ⟨e3, e'⟩ := List.append_inj e' rfl
  simp only [List.cons.injEq, and_true] at e'
  obtain ⟨rfl, rfl⟩ := e'
  rw [encS_inj o1 o1' e1, encS_inj o2 o2' e2, encS_inj o3 o3' e3, cLS.inj _ _ _ _ hg hg', cLS.inj _ _ _ _ hh hh']⟩
theorem cSetN_stable : cSetN.Stable := fun _ _ _ _ hs ⟨o, g, h, e, hg, hh⟩ => ⟨o, g, h, e, cL_stable _ _ _ _ hs hg, cL_stable _ _ _ _ hs hh⟩
/-- A simulator's tape: TauX, Mu, S, T2, L, R. -/
abbrev StN : Type := Nat × Nat × Nat × Nat × List Nat × List Nat
def stNL (t : StN) (l r : Value) : List Value := [l, r] ++ encS t.1 ++ encS t.2.1 ++ encS t.2.2.1 ++ encS t.2.2.2.1
theorem stNL_len (t : StN) (l r : Value) : (stNL t l r).length = 18 := rfl
theorem stNL_one {t : StN} {l r : Value} (hl : l.oneCell' = true) (hr : r.oneCell' = true) : (stNL t l r).all (·.oneCell') = true := by
  simp only [stNL, List.all_append, one_encS, List.all_cons, List.all_nil, hl, hr, Bool.and_true]
def okSt (t : StN) : Prop := t.1 < W256 ∧ t.2.1 < W256 ∧ t.2.2.1 < W256 ∧ t.2.2.2.1 < W256
def cStN : Cod StN := ⟨fun w v p => okSt p ∧ ∃ l r, v = .agg (stNL p l r).toArray ∧ cLS.rd w l p.2.2.2.2.1 ∧ cLS.rd w r p.2.2.2.2.2, fun w v ⟨a, b, c, d, G, H⟩ ⟨a', b', c', d', G', H'⟩ ⟨⟨o1, o2, o3, o4⟩, g, h, e, hg, hh⟩ ⟨⟨o1', o2', o3', o4'⟩, g', h', e', hg', hh'⟩ => by
  dsimp only at hg hh hg' hh' o1 o2 o3 o4 o1' o2' o3' o4'
  rw [e] at e'
  simp only [Value.agg.injEq] at e'
  have e' := congrArg Array.toList e'
  simp only [stNL, List.append_assoc] at e'
  obtain ⟨e0, e'⟩ := List.append_inj e' rfl
  obtain ⟨e1, e'⟩ := List.append_inj e' rfl
  obtain ⟨e2, e'⟩ := List.append_inj e' rfl
  obtain ⟨e3, e4⟩ := List.append_inj e' rfl
  simp only [List.cons.injEq, and_true] at e0
  obtain ⟨rfl, rfl⟩ := e0
  rw [encS_inj o1 o1' e1, encS_inj o2 o2' e2, encS_inj o3 o3' e3, encS_inj o4 o4' e4, cLS.inj _ _ _ _ hg hg', cLS.inj _ _ _ _ hh hh']⟩
def ann43 : Ann := ⟨[], [23], 70, [], [], none, [], []⟩
theorem vc43 (X : Ctx) (β : Nat → Nat) (x0 x1 x2 : Value) : (run Tryz.prog ann43 43 [.x (.v 0), .l [.v 1, .v 2]] [] [] 4).den X (env0 [x0, x1, x2] X.w0) 4 β 0 (fun _ _ _ => False) = (
 Ask (rAgg 14 x0) fun x4 =>
 Ask (rSel (aggArr x4) 0 1 false) fun _ =>
 Ask (rSel (aggArr x4) 1 1 false) fun _ =>
 Ask (rSel (aggArr x4) 2 1 false) fun _ =>
 Ask (rSel (aggArr x4) 3 1 false) fun _ =>
 Ask (rSel (aggArr x4) 4 1 false) fun _ =>
 Ask (rSel (aggArr x4) 5 1 false) fun _ =>
 Ask (rSel (aggArr x4) 6 1 false) fun _ =>
 Ask (rSel (aggArr x4) 7 1 false) fun _ =>
 Ask (rSel (aggArr x4) 8 1 false) fun _ =>
 Ask (rSel (aggArr x4) 9 1 false) fun _ =>
 Ask (rSel (aggArr x4) 10 1 false) fun _ =>
 Ask (rSel (aggArr x4) 11 1 false) fun _ =>
 Ask (rSel (aggArr x4) 12 1 false) fun x17 =>
 Ask (rSel (aggArr x4) 13 1 false) fun x18 =>
 AskNew X.w0 fun _ =>
 AskNew X.w0 fun _ =>
 Ask (rLen X.P 40 x17) fun x19 =>
 AskF X 23 [(.agg #[x1, x2])] fun x20 =>
 Ask (rBin X.P .geq 3 false false x19 x20) fun x21 =>
 AskG [(x21, true)] (rLen X.P 40 x18) fun x22 =>
 AskGF X [(x21, true)] 23 [(.agg #[x1, x2])] fun x23 =>
 AskG [(x21, true)] (rBin X.P .geq 3 false false x22 x23) fun x24 =>
 Ask (rPick x21 x24 (.bool false)) fun x25 =>
 Ret X X.w0 [] [] x25) := by kernel_rfl
def cEn : Contract := fnW (Cods.cons cSetN (Cods.cons cPi Cods.nil)) (fun _ _ => True) (fun p _ v _ => v = .bool (enB p.2.1.1 p.2.1.2 p.1.2.2.2.1.length p.1.2.2.2.2.length))
theorem keepsEn : Keeps1 Tryz.prog GT 43 cEn := by
  refine keepsW (T := Ten') (A := ann43) hMix keepTen' hGT (calls_of (by kernel_rfl)) (callsW_of (by kernel_rfl)) fun args ⟨p, ⟨b, c⟩, _⟩ w0 hrd _ _ => ?_
  obtain ⟨_, _, rfl, ⟨_, g, h, rfl, hg, hh⟩, _, _, rfl, rfl, rfl⟩ := hrd
  dsimp only at hg hh
  refine ⟨[.x (.v 0), .l [.v 1, .v 2]], [], [], 4, env0 [.agg (setL p g h).toArray, .int .i64 b, .int .i64 c] w0, fun b => b, 0, rfl, rfl, fun X hX => mem_none hX rfl, fun X hP hS hw hX hR => ?_⟩
  subst hw; try dsimp only at hR
  rw [vc43 X]
  refine a_agg (setL_len _ _ _) (setL_one (slAt_one hg.1) (slAt_one hh.1)) ?_
  iterate 12 refine a_sel1 rfl ?_
  refine a_sel1 (v := g) rfl ?_
  refine a_sel1 (v := h) rfl ?_
  intro _ _ _ _
  refine a_len hP tyL hg.1 ?_
  refine call_PE hS (T := Ten') (f := 23) rfl (b, c) trivial ?_
  rw [ask_geq]
  by_cases h1 : sizeI b c ≤ (p.2.2.2.1.length : Int)
  · rw [decide_eq_true h1]
    refine a_G_on condsV1 (a_len hP tyL hh.1 ?_)
    refine a_GF_on condsV1 (call_PE hS (T := Ten') (f := 23) rfl (b, c) trivial ?_)
    refine a_G_on condsV1 ?_
    rw [ask_geq, ask_pickT]
    exact hR _ _ _ _ fun _ _ => by simp only [enB]; rw [decide_eq_true h1, Bool.true_and]
  · rw [decide_eq_false h1]
    refine a_G_off (condsV1_not (by decide)) fun _ => ?_
    refine a_GF_off (condsV1_not (by decide)) fun _ => ?_
    refine a_G_off (condsV1_not (by decide)) fun _ => ?_
    rw [ask_pickF]
    exact hR _ _ _ _ fun _ _ => by simp only [enB]; rw [decide_eq_false h1, Bool.false_and]
/-! ### openings of the program's -/
theorem tyOP : ElTy Tryz.prog 47 116 5 40 (.agg #[U 0, U 0, U 0, U 0, U 0]) := ⟨by kernel_rfl, by kernel_rfl⟩
theorem aggOP : agg? Tryz.prog 116 = some true := by kernel_rfl
theorem szOP : sz Tryz.prog 116 = some 5 := by kernel_rfl
theorem fdOPV : FdTy Tryz.prog 116 0 0 := ⟨0, by kernel_rfl⟩
theorem len_max {α : Type} {enc : α → List Value} {ok : α → Prop} {w : World} {v : Value} {l : List α} (h : Ls enc ok w v l) : l.length ≤ maxLen := by
  rcases h.1 with ⟨_, hn, _⟩ | ⟨_, _, _, _, hn, _⟩
  · omega
  · exact Nat.le_trans hn.1 hn.2
section
variable {X : Ctx} {u : World} {v : Value} {n i : Nat} {ow : List Nat} {K : Value → Prop} {l : List (Nat × Nat)}
/-- Opening i. -/
theorem ld_OP (hP : X.P = Tryz.prog) (hk : Kn X u) (h : SlAt u v n (l.flatMap encO)) (hn : l.length = n) (hi : i < l.length) (how : ∀ b, v.ownBlock = some b → b ∉ ow)
    (hK : K (.agg (encO (l.getD i (0, 0))).toArray)) : Ask (rIad X.P 47 v (J i)) fun p => Ask (rLoad X u ow 116 p) K := by
  refine a_iadN hP tyOP h (by omega) ?_
  refine a_load_agg (cs := encO l[i]) hk h (by rw [hP]; exact aggOP) (by rw [hP]; exact szOP) how (by simp [encO]) (flat_at encO_len l i _ (List.getElem?_eq_getElem hi)) ?_
  rw [← getD_O hi]; exact hK
/-- The value of opening i. -/
theorem ld_OPV (hP : X.P = Tryz.prog) (hk : Kn X u) (h : SlAt u v n (l.flatMap encO)) (hn : l.length = n) (hi : i < l.length) (how : ∀ b, v.ownBlock = some b → b ∉ ow)
    (hK : K (U (vAt l i))) : Ask (rIad X.P 47 v (J i)) fun p => Ask (rFad X.P 116 p 0) fun q => Ask (rLoad X u ow 22 q) K := by
  refine a_iadN hP tyOP h (by omega) ?_
  refine a_fad h (by omega) hP fdOPV ?_
  refine a_load_one hk h (by rw [hP]; exact aggU64) how (flat_at encO_len l i _ (List.getElem?_eq_getElem hi) 0 (U l[i].1) rfl) ?_
  rw [← getD_O hi]; exact hK
/-- An opening, cell by cell. -/
theorem a_cellsO {K : Value → Value → Value → Value → Value → Prop} {p : Nat × Nat} (hK : K (U p.1) (U (lb p.2 0)) (U (lb p.2 1)) (U (lb p.2 2)) (U (lb p.2 3))) :
    Ask (rAgg 5 (.agg (encO p).toArray)) fun x => Ask (rSel (aggArr x) 0 1 false) fun a => Ask (rSel (aggArr x) 1 1 false) fun b => Ask (rSel (aggArr x) 2 1 false) fun c => Ask (rSel (aggArr x) 3 1 false) fun d => Ask (rSel (aggArr x) 4 1 false) fun e => K a b c d e :=
  a_agg (encO_len _) (one_encO _) (a_sel1 (v := U p.1) rfl (a_sel1 (v := U (lb p.2 0)) rfl (a_sel1 (v := U (lb p.2 1)) rfl (a_sel1 (v := U (lb p.2 2)) rfl (a_sel1 (v := U (lb p.2 3)) rfl hK)))))
/-- The scalar of line i. -/
theorem ld_LK {l : List Nat} (hP : X.P = Tryz.prog) (hk : Kn X u) (h : SlAt u v n (l.flatMap encS)) (hn : l.length = n) (hi : i < l.length) (how : ∀ b, v.ownBlock = some b → b ∉ ow)
    (hK : K (S (l.getD i 0))) : Ask (rIad X.P 40 v (J i)) fun p => Ask (rFad X.P 31 p 0) fun q => Ask (rLoad X u ow 29 q) K := by
  have e : l.getD i 0 = l[i] := by rw [List.getD_eq_getElem?_getD, List.getElem?_eq_getElem hi]; rfl
  refine a_iadN hP tyL h (by omega) ?_
  refine a_fad h (by omega) hP fdLine ?_
  refine a_load_agg (cs := encS l[i]) hk h (by rw [hP]; exact aggS) (by rw [hP]; exact szS) how (by simp [encS]) (flat_at encS_len l i _ (List.getElem?_eq_getElem hi)) ?_
  rw [← e]; exact hK
end
def ann44 : Ann := ⟨[(3, ([16], []))], [86], 70, [], [], none, [], []⟩
def kb44_0 (b0 : Nat) (x0 x1 : Value) : List KB := [⟨b0, true, 45, #[x0, x1]⟩]
theorem vc44 (X : Ctx) (β : Nat → Nat) (x0 x1 x2 : Value) : (run Tryz.prog ann44 44 [.l [.v 0, .v 1], .x (.v 2)] [] [] 4).den X (env0 [x0, x1, x2] X.w0) 4 β 0 (fun _ _ _ => False) = (
 AskNew X.w0 fun b0 =>
 AskF X 86 [(.agg #[x0, x1])] fun x4 =>
 Ask (rExt X.P x4 0) fun x5 =>
 Ask (rExt X.P x4 1) fun x6 =>
 Ask (rLen X.P 47 x2) fun x7 =>
 ∃ (I0 : List Value → World → Prop) (μ0 : List Value → World → Nat), (∀ w, KnownV X X.w0 [] (kb44_0 b0 x0 x1) w → I0 [(J 0)] w) ∧ ∀ x8 w9, I0 [x8] w9 →
 Ask (rBin X.P .lss 3 false false x8 x7) fun x10 =>
 (∃ t, x10 = .bool t) ∧ (x10 = .bool true →
 Ask (rIad X.P 47 x2 x8) fun x11 =>
 Ask (rLoad X w9 [] 116 x11) fun x12 =>
 AskNew w9 fun b1 =>
 Ask (rAgg 5 x12) fun x13 =>
 Ask (rSel (aggArr x13) 0 1 false) fun x14 =>
 Ask (rSel (aggArr x13) 1 1 false) fun _ =>
 Ask (rSel (aggArr x13) 2 1 false) fun _ =>
 Ask (rSel (aggArr x13) 3 1 false) fun _ =>
 Ask (rSel (aggArr x13) 4 1 false) fun _ =>
 AskG [(x6, true)] (rBin X.P .geq 22 false false x14 x5) fun x19 =>
 Ask (rPick x6 x19 (.bool false)) fun x20 =>
 (∃ t, x20 = .bool t) ∧ (x20 = .bool true →
 Ret X w9 [b1] [] (.bool false)) ∧ (x20 = .bool false →
 Ask (rBin X.P .add 3 false true x8 (J 1)) fun x21 =>
 Again X w9 [b1] [] fun w => I0 [x21] w ∧ μ0 [x21] w < μ0 [x8] w9)) ∧ (x10 = .bool false →
 Ret X w9 [] [] (.bool true))) := by kernel_rfl
def Tft : Table := T0.add 86 cTop
theorem keepTft : AllKeep Tryz.prog GT Tft := keepT0.add keepsTop
def cFt : Contract := fnW (Cods.cons cPn (Cods.cons cLO Cods.nil)) (fun p _ => 0 < p.1.1 ∧ p.1.1 ≤ 64) (fun p _ v _ => v = .bool (!badV p.1.1 p.2.1))
theorem keepsFt : Keeps1 Tryz.prog GT 44 cFt := by
  refine keepsW (T := Tft) (A := ann44) hMix keepTft hGT (calls_of (by kernel_rfl)) (callsW_of (by kernel_rfl)) fun args ⟨⟨m, n⟩, l, _⟩ w0 hrd hpre _ => ?_
  obtain ⟨_, _, rfl, rfl, v, _, rfl, hv, rfl⟩ := hrd
  dsimp only at hv hpre
  replace hv : LsO w0 v l := hv
  obtain ⟨hm0, hm1⟩ := hpre
  have hmx := len_max hv
  unfold maxLen at hmx
  refine ⟨[.l [.v 0, .v 1], .x (.v 2)], [], [], 4, env0 [J m, J n, v] w0, fun b => b, 0, rfl, rfl, fun X hX => mem_none hX rfl, fun X hP hS hw hX hR => ?_⟩
  subst hw; try dsimp only at hR
  rw [vc44 X]
  intro b0 hb0
  obtain ⟨top, ok, htop, hcond⟩ : ∃ (top : Nat) (ok : Bool), (if 64 ≤ m then Value.tuple #[U 0, .bool false] else .tuple #[U (2 ^ m), .bool true]) = .tuple #[U top, .bool ok] ∧ ∀ x : Nat, (ok && decide (top ≤ x)) = (decide ((m : Int) < 64) && decide (2 ^ (m : Int).toNat ≤ x)) := by
    by_cases h : 64 ≤ m
    · exact ⟨0, false, if_pos h, fun x => by rw [decide_eq_false (show ¬ (m : Int) < 64 by omega)]; rfl⟩
    · exact ⟨2 ^ m, true, if_neg h, fun x => by rw [decide_eq_true (show (m : Int) < 64 by omega), Int.toNat_natCast]⟩
  refine call_PE hS (T := Tft) (f := 86) rfl (m, (n : Int)) ⟨hm0, hm1⟩ ?_
  dsimp only
  rw [htop, ask_ext0, ask_ext1]
  refine a_len hP tyOP hv.1 ?_
  refine ⟨fun a w => ∃ i, a = [J i] ∧ i ≤ l.length ∧ Kn X w ∧ badV m (l.take i) = false, fun a _ => match a with | i :: _ => l.length - intNat i | _ => 0, fun w hw => ⟨0, rfl, Nat.zero_le _, hw.kn, by simp [badV]⟩, ?_⟩
  rintro _ w ⟨i, he, hi, hk, hb⟩
  simp only [List.cons.injEq, and_true] at he
  obtain rfl := he
  rw [ask_lssN]
  refine a_ifD (fun hlt => ?_) fun hge => ?_
  · refine ld_OP hP hk (hv.1.stp0 (hk.stp0 hX)) rfl hlt (fun _ _ => List.not_mem_nil) ?_
    intro b1 hb1
    refine a_cellsO ?_
    refine a_and1 (d := decide (top ≤ vAt l i)) (fun _ K' hK => by unfold U; rw [ask_geq, decide_eq_decide.2 Int.ofNat_le]; exact hK) ?_
    rw [hcond]
    refine a_if (fun hbad => hR _ _ _ _ fun _ _ => by rw [badV_some hlt hbad]; rfl) fun hbad => ?_
    rw [ask_succ (by omega)]
    intro w2 hw2
    exact ⟨⟨i + 1, rfl, hlt, hw2.kn, by rw [badV_take hlt, hb, hbad]; rfl⟩, by simp [intNat]; omega⟩
  · obtain rfl : i = l.length := by omega
    rw [List.take_length] at hb
    exact hR _ _ _ _ fun _ _ => by rw [hb]; rfl
def ann45 : Ann := ⟨[(2, ([7], []))], [30], 70, [], [4], none, [], []⟩
theorem vc45 (X : Ctx) (β : Nat → Nat) (x0 : Value) : (run Tryz.prog ann45 45 [.x (.v 0)] [] [] 2).den X (env0 [x0] X.w0) 2 β 0 (fun _ _ _ => False) = (
 Ask (rLen X.P 28 x0) fun x2 =>
 ∃ (I0 : List Value → World → Prop) (μ0 : List Value → World → Nat), (∀ w, KnownV X X.w0 [] [] w → I0 [(J 0)] w) ∧ ∀ x3 w4, I0 [x3] w4 →
 Ask (rBin X.P .lss 3 false false x3 x2) fun x5 =>
 (∃ t, x5 = .bool t) ∧ (x5 = .bool true →
 Ask (rIad X.P 28 x0 x3) fun x6 =>
 Ask (rLoad X w4 [] 29 x6) fun x7 =>
 Ask (rAgg 4 (.agg #[(U 0), (U 0), (U 0), (U 0)])) fun _ =>
 AskNew w4 fun b0 =>
 Ask (rAgg 4 x7) fun x9 =>
 AskF X 30 [x9] fun x10 =>
 (∃ t, x10 = .bool t) ∧ (x10 = .bool true →
 Ret X w4 [b0] [] (.bool true)) ∧ (x10 = .bool false →
 Ask (rBin X.P .add 3 false true x3 (J 1)) fun x11 =>
 Again X w4 [b0] [] fun w => I0 [x11] w ∧ μ0 [x11] w < μ0 [x3] w4)) ∧ (x5 = .bool false →
 Ret X w4 [] [] (.bool false))) := by kernel_rfl
def Tzo : Table := T0.add 30 cqIsZ
theorem keepTzo : AllKeep Tryz.prog GT Tzo := keepT0.add keepsqIsZ
def zerL (l : List Nat) : Bool := l.any fun n => decide (rF n = 0)
theorem zerL_take {l : List Nat} {i : Nat} (hi : i < l.length) : zerL (l.take (i + 1)) = (zerL (l.take i) || decide (rF (l.getD i 0) = 0)) := by
  have e : l.take (i + 1) = l.take i ++ [l[i]] := List.take_succ_eq_append_getElem hi
  have e2 : l.getD i 0 = l[i] := by rw [List.getD_eq_getElem?_getD, List.getElem?_eq_getElem hi]; rfl
  unfold zerL
  rw [e, List.any_append, e2]
  simp
def cZo : Contract := fnW (Cods.cons cLS Cods.nil) (fun _ _ => True) (fun p _ v _ => v = .bool (zerL p.1))
theorem keepsZo : Keeps1 Tryz.prog GT 45 cZo := by
  refine keepsW (T := Tzo) (A := ann45) hMix keepTzo hGT (calls_of (by kernel_rfl)) (callsW_of (by kernel_rfl)) fun args ⟨l, _⟩ w0 hrd hpre hg => ?_
  obtain ⟨v, _, rfl, hv, rfl⟩ := hrd
  dsimp only at hv
  have hmx := len_max hv
  unfold maxLen at hmx
  refine ⟨[.x (.v 0)], [], [], 2, env0 [v] w0, fun b => b, 0, rfl, rfl, fun X hX => mem_none hX rfl, fun X hP hS hw hX hR => ?_⟩
  subst hw; try dsimp only at hR
  rw [vc45 X]
  refine a_len hP tySI hv.1 ?_
  refine ⟨fun a w => ∃ i, a = [J i] ∧ i ≤ l.length ∧ Kn X w ∧ zerL (l.take i) = false, fun a _ => match a with | i :: _ => l.length - intNat i | _ => 0, fun w hw => ⟨0, rfl, Nat.zero_le _, hw.kn, by simp [zerL]⟩, ?_⟩
  rintro _ w ⟨i, he, hi, hk, hb⟩
  simp only [List.cons.injEq, and_true] at he
  obtain rfl := he
  rw [ask_lssN]
  refine a_ifD (fun hlt => ?_) fun hge => ?_
  · have hW : l.getD i 0 < W256 := by
      rw [List.getD_eq_getElem?_getD, List.getElem?_eq_getElem hlt]; exact hv.2 _ (List.getElem_mem hlt)
    refine ld_SN hP hk (hv.1.stp0 (hk.stp0 hX)) rfl hlt (fun _ _ => List.not_mem_nil) ?_
    rw [ask_zero4]; intro b0 hb0
    rw [ask_aggS]
    refine call_PE hS (T := Tzo) (f := 30) rfl (l.getD i 0) hW ?_
    have et := zerL_take hlt
    rw [hb, Bool.false_or] at et
    refine a_if (fun h => hR _ _ _ _ fun _ _ => ?_) fun h => ?_
    · have h1 : zerL l = true := by
        unfold zerL
        rw [List.any_eq_true]
        exact ⟨l[i], List.getElem_mem hlt, by rw [List.getD_eq_getElem?_getD, List.getElem?_eq_getElem hlt] at h; exact h⟩
      rw [h1]
    · rw [ask_succ (by omega)]
      intro w2 hw2
      exact ⟨⟨i + 1, rfl, hlt, hw2.kn, by rw [et, h]⟩, by simp [intNat]; omega⟩
  · obtain rfl : i = l.length := by omega
    rw [List.take_length] at hb
    exact hR _ _ _ _ fun _ _ => by rw [hb]
def ann50 : Ann := ⟨[(3, ([10], [1]))], [29, 49], 70, [], [4, 5, 7], none, [], []⟩
def kb50_0 (b0 b1 : Nat) (x3 x4 : Value) : List KB := [⟨b0, true, 29, (aggArr x3)⟩, ⟨b1, true, 29, (aggArr x4)⟩]
theorem vc50 (X : Ctx) (β : Nat → Nat) (x0 x1 : Value) : (run Tryz.prog ann50 50 [.x (.v 0), .x (.v 1)] [] [] 3).den X (env0 [x0, x1] X.w0) 3 β 0 (fun _ _ _ => False) = (
 Ask (rAgg 4 (.agg #[(U 0), (U 0), (U 0), (U 0)])) fun x3 =>
 AskNew X.w0 fun b0 =>
 Ask (rAgg 4 (.agg #[(U 0), (U 0), (U 0), (U 0)])) fun x4 =>
 AskNew X.w0 fun b1 =>
 Ask (rLen X.P 28 x1) fun x5 =>
 ∃ (I0 : List Value → World → Prop) (μ0 : List Value → World → Nat), (∀ w, KnownV X X.w0 [] (kb50_0 b0 b1 x3 x4) w → I0 [(J 0), x4] w) ∧ ∀ x6 x7 w8, I0 [x6, x7] w8 →
 Ask (rBin X.P .lss 3 false false x6 x5) fun x9 =>
 (∃ t, x9 = .bool t) ∧ (x9 = .bool true →
 Ask (rIad X.P 28 x1 x6) fun x10 =>
 Ask (rLoad X w8 [] 29 x10) fun x11 =>
 Ask (rAgg 4 (.agg #[(U 0), (U 0), (U 0), (U 0)])) fun _ =>
 AskNew w8 fun b2 =>
 Ask (rAgg 4 x11) fun x13 =>
 Ask (rIad X.P 40 x0 x6) fun x14 =>
 Ask (rFad X.P 31 x14 0) fun x15 =>
 Ask (rLoad X w8 [b2] 29 x15) fun x16 =>
 AskF X 49 [x13, x16] fun x17 =>
 AskF X 29 [x7, x17] fun x18 =>
 Ask (rAgg 4 x18) fun x19 =>
 Ask (rBin X.P .add 3 false true x6 (J 1)) fun x20 =>
 Again X w8 [b1, b2] [] fun w => I0 [x20, x19] w ∧ μ0 [x20, x19] w < μ0 [x6, x7] w8) ∧ (x9 = .bool false →
 Ask (rAgg 4 x7) fun x10 =>
 Ret X w8 [b0] [] x10)) := by kernel_rfl
def Tlg : Table := (T0.add 29 cqAdd).add 49 cqMul
theorem keepTlg : AllKeep Tryz.prog GT Tlg := (keepT0.add keepsqAdd).add keepsqMul
def logF (G : List Nat) (a : Nat → F) (n : Nat) : F := sumF' (fun i => a i * rF (G.getD i 0)) n
def cLog : Contract := fnW (Cods.cons cLS (Cods.cons cLF Cods.nil)) (fun p _ => p.2.1.length ≤ p.1.length) (fun p _ v _ => v = S (logF p.1 (fun i => p.2.1.getD i 0) p.2.1.length).val)
theorem keepsLog : Keeps1 Tryz.prog GT 50 cLog := by
  refine keepsW (T := Tlg) (A := ann50) hMix keepTlg hGT (calls_of (by kernel_rfl)) (callsW_of (by kernel_rfl)) fun args ⟨G, a, _⟩ w0 hrd hpre hg => ?_
  obtain ⟨x, _, rfl, hG, y, _, rfl, ha, rfl⟩ := hrd
  dsimp only at hG ha hpre
  replace ha : LsF w0 y a := ha
  have hmx := len_max ha
  unfold maxLen at hmx
  refine ⟨[.x (.v 0), .x (.v 1)], [], [], 3, env0 [x, y] w0, fun b => b, 0, rfl, rfl, fun X hX => mem_none hX rfl, fun X hP hS hw hX hR => ?_⟩
  subst hw; try dsimp only at hR
  rw [vc50 X]
  rw [ask_zero4]; intro b0 hb0
  rw [ask_zero4]; intro b1 hb1
  refine a_len hP tySI ha.1 ?_
  refine ⟨fun q w => ∃ i, q = [J i, S (logF G (fun i => a.getD i 0) i).val] ∧ i ≤ a.length ∧ Kn X w, fun q _ => match q with | i :: _ => a.length - intNat i | _ => 0, fun w hw => ⟨0, rfl, Nat.zero_le _, hw.kn⟩, ?_⟩
  rintro _ _ w ⟨i, he, hi, hk⟩
  simp only [List.cons.injEq, and_true] at he
  obtain ⟨rfl, rfl⟩ := he
  rw [ask_lssN]
  refine a_ifD (fun hlt => ?_) fun hge => ?_
  · have s0 := hk.stp0 hX
    have hGi : i < G.length := by omega
    have hW : G.getD i 0 < W256 := by
      rw [List.getD_eq_getElem?_getD, List.getElem?_eq_getElem hGi]; exact hG.2 _ (List.getElem_mem hGi)
    refine ld_SF hP hk (ha.1.stp0 s0) rfl hlt (fun _ _ => List.not_mem_nil) ?_
    rw [ask_zero4]; intro b2 hb2
    rw [ask_aggS]
    refine ld_LK hP hk (hG.1.stp0 s0) rfl hGi (slAt_off (hG.1.stp0 s0) (by rw [flat_len encS_len]; omega) (by simpa using hb2)) ?_
    refine call_PE hS (T := Tlg) (f := 49) rfl (_, _) ⟨val_lt _, hW⟩ ?_
    dsimp only
    refine call_PE hS (T := Tlg) (f := 29) rfl (_, _) ⟨val_lt _, val_lt _⟩ ?_
    dsimp only
    rw [rF_val, rF_val, rF_val, ask_aggS, ask_succ (by omega)]
    intro w2 hw2
    exact ⟨⟨i + 1, rfl, hlt, hw2.kn⟩, by simp [intNat]; omega⟩
  · obtain rfl : i = a.length := by omega
    rw [ask_aggS]
    exact hR _ _ _ _ fun _ _ => rfl
#print axioms keepsLog
end Go.Vc
