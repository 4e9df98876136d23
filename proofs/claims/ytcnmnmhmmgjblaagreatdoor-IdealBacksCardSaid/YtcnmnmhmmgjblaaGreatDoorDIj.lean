/-
  The program's weights: powers of challenges, and what stands for them.
-/
import Derived.Test.YtcnmnmhmmgjblaaGreatDoorDIh
namespace Go.Vc
open Go Go.Proofs Go.RowKit
def ann216 : Ann := ⟨[], [], 70, [], [1, 2], none, [], []⟩
theorem vc216 (X : Ctx) (β : Nat → Nat) (x0 : Value) : (run Tryz.prog ann216 216 [.x (.v 0)] [] [] 2).den X (env0 [x0] X.w0) 2 β 0 (fun _ _ _ => False) = (
 Ask (rAgg 4 x0) fun _ =>
 AskNew X.w0 fun _ =>
 Ask (rAgg 4 (.agg #[(U 0), (U 0), (U 0), (U 0)])) fun _ =>
 AskNew X.w0 fun b1 =>
 Ask (rAgg 4 (.agg #[(U 1), (U 0), (U 0), (U 0)])) fun x4 =>
 Ret X X.w0 [b1] [] x4) := by kernel_rfl
def cOneS : Contract := fnP enc1 (· < W256) (fun _ v => v = S 1)
theorem keepsOneS : Keeps1 Tryz.prog GT 216 cOneS := by
  refine keepsP (T := T0) (A := ann216) inj1 hMix keepT0 hGT (calls_of (by kernel_rfl)) (callsW_of (by kernel_rfl)) fun n w0 hn _ => ⟨[.x (.v 0)], [], [], 2, env0 [S n] w0, fun b => b, 0, rfl, rfl, fun X hX => mem_none hX rfl, fun X hP hS hw hX hR => ?_⟩
  subst hw
  rw [vc216 X]
  rw [ask_aggS]; intro _ _; rw [ask_zero4]; intro _ _
  rw [show Value.agg #[U 1, U 0, U 0, U 0] = S 1 from rfl, ask_aggS]
  exact hR _ _ _ _ rfl
/-! ### powers -/
def padF (f : Nat → F) (i n : Nat) : List F := mapN (fun j => if j < i then f j else 0) n
theorem padF_len (f : Nat → F) (i n : Nat) : (padF f i n).length = n := mapN_len _ _
theorem padF_zero (f : Nat → F) (n : Nat) : padF f 0 n = List.replicate n 0 := by
  refine List.ext_getElem (by simp [padF, mapN]) fun j h1 h2 => ?_
  simp [padF, mapN]
theorem padF_set (f : Nat → F) (i n : Nat) : (padF f i n).set i (f i) = padF f (i + 1) n := by
  refine List.ext_getElem (by simp [padF, mapN]) fun j h1 h2 => ?_
  rw [List.getElem_set]
  simp only [padF, mapN, List.getElem_map, List.getElem_range]
  by_cases e : i = j
  · subst e; rw [if_pos rfl, if_pos (by omega)]
  · rw [if_neg e]
    by_cases q : j < i
    · rw [if_pos q, if_pos (by omega)]
    · rw [if_neg q, if_neg (by omega)]
theorem padF_full (f : Nat → F) (n : Nat) : padF f n n = mapN f n := mapN_congr fun i hi => by rw [if_pos hi]
theorem makeISc (x : Value) (w : World) : (Instr.makeInterface 29 x).run Tryz.prog w = .ok (.iface 29 x) w := by kernel_rfl
theorem methOne (a : Nat) : Meth Tryz.prog (.iface 29 (S a)) "One" [] 216 [S a] := fun w => by kernel_rfl
theorem methMul (a b : Nat) : Meth Tryz.prog (.iface 29 (S a)) "Mul" [S b] 49 [S a, S b] := fun w => by kernel_rfl
theorem ask_makeIn {P : Program} {K : Value → Prop} {t a ty : Nat} {x : Value} (h : ∀ w, (Instr.makeInterface t x).run P w = .ok (.iface t x) w) : Ask (rGen P (.makeInterface t (.tmp a)) ty [(a, x)]) K = K (.iface t x) :=
  ask_eq (runsN_iff fun w => by simp [execOp, argsFn, h])
def ann95 : Ann := ⟨[(6, ([22], [1]))], [], 70, [], [2, 7], none, [], []⟩
def kb95_0 (b0 : Nat) (x3 : Value) : List KB := [⟨b0, true, 29, (aggArr x3)⟩]
def kb95_1 (b0 b1 : Nat) (x3 x11 : Value) : List KB := [⟨b0, true, 29, (aggArr x3)⟩, ⟨b1, true, 29, (aggArr x11)⟩]
def kb95_2 (b0 b1 : Nat) (x3 x14 : Value) : List KB := [⟨b0, true, 29, (aggArr x3)⟩, ⟨b1, true, 29, (aggArr x14)⟩]
theorem vc95 (X : Ctx) (β : Nat → Nat) (x0 x1 : Value) : (run Tryz.prog ann95 95 [.x (.v 0), .x (.v 1)] [] [] 3).den X (env0 [x0, x1] X.w0) 3 β 0 (fun _ _ _ => False) = (
 Ask (rAgg 4 x0) fun x3 =>
 AskNew X.w0 fun b0 =>
 Ask (rBin X.P .lss 3 false true x1 (J 0)) fun x4 =>
 AskG [(x4, false)] (rBin X.P .gtr 3 false true x1 (J 4096)) fun x5 =>
 Ask (rPick x4 (.bool true) x5) fun x6 =>
 (∃ t, x6 = .bool t) ∧ (x6 = .bool true →
 Ret X X.w0 [] [] (.tuple #[(.slice none 0 0), (J 1)])) ∧ (x6 = .bool false →
 AskO X X.w0 [] (kb95_0 b0 x3) false (Op.makeSlice 28 (Operand.tmp 15) (Operand.tmp 15)) 28 [(15, x1), (15, x1)] fun x7 w7 =>
 Ask (rGen X.P (Op.makeInterface 29 (Operand.tmp 17)) 20 [(17, x3)]) fun x8 =>
 AskI X x8 "One" [] fun x9 =>
 Ask (rAgg 4 (.agg #[(U 0), (U 0), (U 0), (U 0)])) fun _ =>
 AskNew w7 fun b1 =>
 Ask (rAgg 4 x9) fun x11 =>
 Ask (rLen X.P 28 x7) fun x12 =>
 ∃ (I0 : List Value → World → Prop) (μ0 : List Value → World → Nat), (∀ w, KnownV X w7 [b1] (kb95_1 b0 b1 x3 x11) w → I0 [(J 0), x11] w) ∧ ∀ x13 x14 w15, I0 [x13, x14] w15 →
 Ask (rBin X.P .lss 3 false false x13 x12) fun x16 =>
 (∃ t, x16 = .bool t) ∧ (x16 = .bool true →
 Ask (rIad X.P 28 x7 x13) fun x17 =>
 AskO X w15 [] (kb95_2 b0 b1 x3 x14) true (Op.store 29 (Operand.tmp 28) (Operand.tmp 27)) 0 [(28, x17), (27, x14)] fun _ w18 =>
 Ask (rGen X.P (Op.makeInterface 29 (Operand.tmp 29)) 20 [(29, x14)]) fun x19 =>
 AskI X x19 "Mul" [x3] fun x20 =>
 Ask (rAgg 4 x20) fun x21 =>
 Ask (rBin X.P .add 3 false true x13 (J 1)) fun x22 =>
 Again X w18 [b1] [] fun w => I0 [x22, x21] w ∧ μ0 [x22, x21] w < μ0 [x13, x14] w15) ∧ (x16 = .bool false →
 Ret X w15 [] [] (.tuple #[x7, (J 0)])))) := by kernel_rfl
def cPws : Contract := fnW (Cods.cons cS (Cods.cons cJn' Cods.nil)) (fun p _ => p.2.1 ≤ 1024) (fun p w v w' => ∃ x, v = .tuple #[x, J 0] ∧ w'.ownsRow w.heap.size 29 4 x p.2.1 ((mapN (fp (rF p.1)) p.2.1).flatMap encF))
def Tpw : Table := (T0.add 216 cOneS).add 49 cqMul
theorem keepTpw : AllKeep Tryz.prog GT Tpw := (keepT0.add keepsOneS).add keepsqMul
theorem keepsPws : Keeps1 Tryz.prog GT 95 cPws := by
  refine keepsW (T := Tpw) (A := ann95) hMix keepTpw hGT (calls_of (by kernel_rfl)) (callsW_of (by kernel_rfl)) fun args ⟨a, n, _⟩ w0 hrd hpre hg => ?_
  obtain ⟨_, _, rfl, ⟨rfl, ha⟩, _, _, rfl, rfl, rfl⟩ := hrd
  dsimp only at ha hpre
  refine ⟨[.x (.v 0), .x (.v 1)], [], [], 3, env0 [S a, J n] w0, fun b => b, 0, rfl, rfl, fun X hX => mem_none hX rfl, fun X hP hS hw hX hR => ?_⟩
  subst hw; try dsimp only at hR
  rw [vc95 X]
  rw [ask_aggS]; intro b0 hb0
  rw [ask_lssN]
  rw [show decide (n < 0) = false by simp]
  refine a_G_on condsV1 ?_
  rw [ask_gtr, ask_pickF]
  refine a_ifD (fun h => by omega) fun _ => ?_
  refine a_make (n := n) hX hP tySI (by simp [argsFn]) (by simp [argsFn]) (by omega) (by unfold maxLen; omega) fun g u1 w1 h1 k1 s1 su1 o1 => ?_
  have mk : (madeCells (Value.agg #[U 0, U 0, U 0, U 0]).cells (n * 4)).toList = (List.replicate n (0 : F)).flatMap encF := made_enc (α := F) (enc := encF) (a := 0) (s := 4) (by kernel_rfl) rfl (by decide) n
  rw [mk, ← padF_zero (fp (rF a))] at o1
  rw [ask_makeIn (by rw [hP]; exact makeISc _)]
  refine call_I hP hS (T := Tpw) (f := 216) rfl a (methOne a) ha ?_
  rw [ask_zero4]; intro b1 hb1
  rw [show S 1 = S (fp (rF a) 0).val from rfl, ask_aggS]
  refine a_len hP tySI (own_slAt o1) ?_
  have l1 : b0 < u1.heap.size := h1.low (by simp [kb95_0])
  refine ⟨fun q w => ∃ i, q = [J i, S (fp (rF a) i).val] ∧ i ≤ n ∧ Kn X w ∧ w.ownsRow u1.heap.size 29 4 (.slice (some ⟨g, 0, none⟩) n n) n ((padF (fp (rF a)) i n).flatMap encF), fun q _ => match q with | i :: _ => n - intNat i | _ => 0, fun w hw => ⟨0, rfl, Nat.zero_le _, hw.kn, own_stp o1 hw.stp fun q hq hm => ?_⟩, ?_⟩
  · have := (o1.lt q hq).2
    simp at hm; omega
  rintro _ _ w ⟨i, he, hi, hk, ho⟩
  simp only [List.cons.injEq, and_true] at he
  obtain ⟨rfl, rfl⟩ := he
  rw [ask_lssN]
  refine a_ifD (fun hlt => ?_) fun hge => ?_
  · refine a_iadN hP tySI (own_slAt ho) hlt ?_
    have gb : ∀ g', (Value.slice (some ⟨g, 0, none⟩) n n).ownBlock = some g' → u1.heap.size ≤ g' ∧ g' < w1.heap.size := fun g' hg' => o1.lt g' hg'
    refine a_store (vs := encF (fp (rF a) i)) hX hP szS rfl rfl rfl rfl (one_encF _) ho h1.sz0 (by omega) (by decide) (fun _ _ => List.not_mem_nil) (fun w4 hw4 g' hg' hm => by
      have := gb g' hg'
      simp only [kb95_2, List.map_cons, List.map_nil, List.mem_cons, List.not_mem_nil, or_false] at hm
      omega) fun _ w2 w3 h3 k3 s3 su3 o3 => ?_
    rw [lset_flat encF_len _ _ _ (by rw [padF_len]; exact hlt), padF_set] at o3
    rw [ask_makeIn (by rw [hP]; exact makeISc _)]
    refine call_I hP hS (T := Tpw) (f := 49) rfl ((fp (rF a) i).val, a) (methMul _ _) ⟨val_lt _, ha⟩ ?_
    dsimp only
    rw [rF_val, ask_aggS, ask_succ (by omega)]
    intro w5 hw5
    refine ⟨⟨i + 1, rfl, hlt, hw5.kn, own_stp o3 hw5.stp fun q hq hm => ?_⟩, by simp [intNat]; omega⟩
    have := gb q hq
    simp at hm; omega
  · obtain rfl : i = n := by omega
    rw [padF_full] at ho
    exact hR _ _ _ _ fun w hw => ⟨_, rfl, own_mono (own_stp0 ho hw.stp) h1.sz0⟩
/-! ### the weights' func values -/
theorem cell_stp {ex : List Nat} {u w : World} {b o : Nat} {v : Value} (h : u.cell? ⟨b, o, none⟩ = some v) (hs : Stp ex u w) (hb : b ∉ ex) : w.cell? ⟨b, o, none⟩ = some v := by
  rw [World.cell?_of_block (w := u) (hs.past b (World.block_lt_of_cell? u _ h) hb)]; exact h
theorem a_ldc {X : Ctx} {u : World} {ow : List Nat} {K : Value → Prop} {t : TypeId} {b o : Nat} {v : Value} (hk : Kn X u) (ht : agg? X.P t = some false) (hc : u.cell? ⟨b, o, none⟩ = some v) (how : b ∉ ow) (hK : K v) : Ask (rLoad X u ow t (.pointer (some ⟨b, o, none⟩))) K := by
  rw [ask_load_one ht (World.block_lt_of_cell? u _ hc) how hc hk.some]; exact hK
theorem aggLS : agg? Tryz.prog 28 = some false := by kernel_rfl
theorem aggIn : agg? Tryz.prog 3 = some false := by kernel_rfl
abbrev Pt (b : Nat) : Value := .pointer (some ⟨b, 0, none⟩)
/-- A variable that holds a list. -/
def cVF : Cod (List F) := ⟨fun w v l => ∃ b x, v = Pt b ∧ w.cell? ⟨b, 0, none⟩ = some x ∧ LsF w x l, fun w v l l' ⟨b, x, e, hc, hl⟩ ⟨b', x', e', hc', hl'⟩ => by
  rw [e] at e'
  cases e'
  rw [hc] at hc'
  cases hc'
  exact cLF.inj _ _ _ _ hl hl'⟩
def ann96 : Ann := ⟨[], [], 70, [], [3], none, [], []⟩
theorem vc96 (X : Ctx) (β : Nat → Nat) (x0 x1 : Value) : (run Tryz.prog ann96 96 [.x (.v 0), .x (.v 1)] [] [] 3).den X (env0 [x0, x1] X.w0) 3 β 0 (fun _ _ _ => False) = (
 Ask (rAgg 4 (.agg #[(U 0), (U 0), (U 0), (U 0)])) fun _ =>
 AskNew X.w0 fun b0 =>
 Ask (rLoad X X.w0 [] 28 x1) fun x4 =>
 Ask (rBin X.P .add 3 true false (J 2) x0) fun x5 =>
 Ask (rIad X.P 28 x4 x5) fun x6 =>
 Ask (rLoad X X.w0 [] 29 x6) fun x7 =>
 Ask (rAgg 4 x7) fun x8 =>
 Ret X X.w0 [b0] [] x8) := by kernel_rfl
def cW1 : Contract := fnW (Cods.cons cJn' (Cods.cons cVF Cods.nil)) (fun p _ => 2 + p.1 < p.2.1.length ∧ p.1 < 2 ^ 62) (fun p _ v _ => v = S (p.2.1.getD (2 + p.1) 0).val)
theorem keepsW1 : Keeps1 Tryz.prog GT 96 cW1 := by
  refine keepsW (T := T0) (A := ann96) hMix keepT0 hGT (calls_of (by kernel_rfl)) (callsW_of (by kernel_rfl)) fun args ⟨i, l, _⟩ w0 hrd hpre hg => ?_
  obtain ⟨_, _, rfl, rfl, _, _, rfl, ⟨b, x, rfl, hc, hl⟩, rfl⟩ := hrd
  obtain ⟨h1, h2⟩ := hpre
  dsimp only at h1 h2 hl hc
  refine ⟨[.x (.v 0), .x (.v 1)], [], [], 3, env0 [J i, Pt b] w0, fun b => b, 0, rfl, rfl, fun X hX => mem_none hX rfl, fun X hP hS hw hX hR => ?_⟩
  subst hw; try dsimp only at hR
  rw [vc96 X]
  rw [ask_zero4]; intro b0 hb0
  refine a_ldc (kn0 X) (by rw [hP]; exact aggLS) hc List.not_mem_nil ?_
  rw [ask_addN (by omega)]
  refine ld_SF hP (kn0 X) hl.1 rfl h1 (fun _ _ => List.not_mem_nil) ?_
  rw [ask_aggS]
  exact hR _ _ _ _ fun _ _ => rfl
def ann97 : Ann := ⟨[], [], 70, [], [3], none, [], []⟩
theorem vc97 (X : Ctx) (β : Nat → Nat) (x0 x1 : Value) : (run Tryz.prog ann97 97 [.x (.v 0), .x (.v 1)] [] [] 3).den X (env0 [x0, x1] X.w0) 3 β 0 (fun _ _ _ => False) = (
 Ask (rAgg 4 (.agg #[(U 0), (U 0), (U 0), (U 0)])) fun _ =>
 AskNew X.w0 fun b0 =>
 Ask (rLoad X X.w0 [] 28 x1) fun x4 =>
 Ask (rIad X.P 28 x4 x0) fun x5 =>
 Ask (rLoad X X.w0 [] 29 x5) fun x6 =>
 Ask (rAgg 4 x6) fun x7 =>
 Ret X X.w0 [b0] [] x7) := by kernel_rfl
def cW2 : Contract := fnW (Cods.cons cJn' (Cods.cons cVF Cods.nil)) (fun p _ => p.1 < p.2.1.length) (fun p _ v _ => v = S (p.2.1.getD p.1 0).val)
theorem keepsW2 : Keeps1 Tryz.prog GT 97 cW2 := by
  refine keepsW (T := T0) (A := ann97) hMix keepT0 hGT (calls_of (by kernel_rfl)) (callsW_of (by kernel_rfl)) fun args ⟨i, l, _⟩ w0 hrd hpre hg => ?_
  obtain ⟨_, _, rfl, rfl, _, _, rfl, ⟨b, x, rfl, hc, hl⟩, rfl⟩ := hrd
  dsimp only at hpre hl hc
  refine ⟨[.x (.v 0), .x (.v 1)], [], [], 3, env0 [J i, Pt b] w0, fun b => b, 0, rfl, rfl, fun X hX => mem_none hX rfl, fun X hP hS hw hX hR => ?_⟩
  subst hw; try dsimp only at hR
  rw [vc97 X]
  rw [ask_zero4]; intro b0 hb0
  refine a_ldc (kn0 X) (by rw [hP]; exact aggLS) hc List.not_mem_nil ?_
  refine ld_SF hP (kn0 X) hl.1 rfl hpre (fun _ _ => List.not_mem_nil) ?_
  rw [ask_aggS]
  exact hR _ _ _ _ fun _ _ => rfl
abbrev Fv (bz : Nat) : Value := .func (.func 96) #[] #[Pt bz]
abbrev Fy (b : Nat) : Value := .func (.func 97) #[] #[Pt b]
abbrev Fb (bv bp bt : Nat) : Value := .func (.func 98) #[] #[Pt bv, Pt bp, Pt bt]
def cW3a : Cods (Nat × List F × Nat × List F) := ⟨fun w a q => ∃ bv bp bt bz xz xt, a = [J q.1, Pt bv, Pt bp, Pt bt] ∧ w.cell? ⟨bv, 0, none⟩ = some (Fv bz) ∧ w.cell? ⟨bz, 0, none⟩ = some xz ∧ LsF w xz q.2.1 ∧ w.cell? ⟨bp, 0, none⟩ = some (J q.2.2.1) ∧ w.cell? ⟨bt, 0, none⟩ = some xt ∧ LsF w xt q.2.2.2,
  fun w a ⟨i, zs, m, ts⟩ ⟨i', zs', m', ts'⟩ ⟨bv, bp, bt, bz, xz, xt, e, h1, h2, h3, h4, h5, h6⟩ ⟨bv', bp', bt', bz', xz', xt', e', h1', h2', h3', h4', h5', h6'⟩ => by
    rw [e] at e'
    simp only [List.cons.injEq, Value.pointer.injEq, Option.some.injEq, Addr.mk.injEq, and_true] at e'
    obtain ⟨e0, rfl, rfl, rfl⟩ := e'
    have e0 := J_injI e0
    try dsimp only at e0
    subst e0
    rw [h1] at h1'
    simp only [Option.some.injEq, Value.func.injEq, true_and, Array.mk.injEq, List.cons.injEq, Value.pointer.injEq, Addr.mk.injEq, and_true] at h1'
    subst h1'
    rw [h2] at h2'
    cases h2'
    rw [h5] at h5'
    cases h5'
    rw [h4] at h4'
    have e4 : m = m' := J_injI (Option.some.inj h4')
    have e5 : zs = zs' := cLF.inj _ _ _ _ h3 h3'
    have e6 : ts = ts' := cLF.inj _ _ _ _ h6 h6'
    rw [e4, e5, e6]⟩
def cW3 : Contract := fnW cW3a (fun p _ => 0 < p.2.2.1 ∧ 2 + p.1 / p.2.2.1 < p.2.1.length ∧ p.1 % p.2.2.1 < p.2.2.2.length ∧ p.1 < 2 ^ 62) (fun p _ v _ => v = S (p.2.1.getD (2 + p.1 / p.2.2.1) 0 * p.2.2.2.getD (p.1 % p.2.2.1) 0).val)
def ann98 : Ann := ⟨[], [49], 70, [], [5], some false, [], []⟩
def kb98_0 (b0 : Nat) (x5 : Value) : List KB := [⟨b0, true, 29, (aggArr x5)⟩]
theorem vc98 (X : Ctx) (β : Nat → Nat) (x0 x1 x2 x3 : Value) : (run Tryz.prog ann98 98 [.x (.v 0), .x (.v 1), .x (.v 2), .x (.v 3)] [] [] 5).den X (env0 [x0, x1, x2, x3] X.w0) 5 β 0 (fun _ _ _ => False) = (
 Ask (rAgg 4 (.agg #[(U 0), (U 0), (U 0), (U 0)])) fun x5 =>
 AskNew X.w0 fun b0 =>
 Ask (rLoad X X.w0 [] 110 x1) fun x6 =>
 Ask (rFad X.P 45 x2 0) fun x7 =>
 Ask (rLoad X X.w0 [] 3 x7) fun x8 =>
 Ask (rBin X.P .quo 3 false false x0 x8) fun x9 =>
 AskV X X.w0 [] (kb98_0 b0 x5) false x6 [x9] fun x10 w10 =>
 Ask (rLoad X X.w0 [] 28 x3) fun x11 =>
 Ask (rFad X.P 45 x2 0) fun x12 =>
 Ask (rLoad X X.w0 [] 3 x12) fun x13 =>
 Ask (rBin X.P .rem 3 false false x0 x13) fun x14 =>
 Ask (rIad X.P 28 x11 x14) fun x15 =>
 Ask (rLoad X X.w0 [] 29 x15) fun x16 =>
 AskF X 49 [x10, x16] fun x17 =>
 Ask (rAgg 4 x17) fun x18 =>
 Ret X w10 [b0] [] x18) := by kernel_rfl
def Tw3 : Table := (T0.add 96 cW1).add 49 cqMul
theorem keepTw3 : AllKeep Tryz.prog GT Tw3 := (keepT0.add keepsW1).add keepsqMul
theorem fdPB : FdTy Tryz.prog 45 0 0 := ⟨0, by kernel_rfl⟩
theorem keepsW3 : Keeps1 Tryz.prog GT 98 cW3 := by
  refine keepsW (T := Tw3) (A := ann98) hMix keepTw3 hGT (calls_of (by kernel_rfl)) (callsW_of (by kernel_rfl)) fun args ⟨i, zs, m, ts⟩ w0 hrd hpre hg => ?_
  obtain ⟨bv, bp, bt, bz, xz, xt, rfl, h1, h2, h3, h4, h5, h6⟩ := hrd
  obtain ⟨q1, q2, q3, q4⟩ := hpre
  dsimp only at h3 h4 h6 q1 q2 q3 q4
  refine ⟨[.x (.v 0), .x (.v 1), .x (.v 2), .x (.v 3)], [], [], 5, env0 [J i, Pt bv, Pt bp, Pt bt] w0, fun b => b, 0, rfl, rfl, fun X hX => mem_none hX rfl, fun X hP hS hw hX hR => ?_⟩
  subst hw; try dsimp only at hR
  rw [vc98 X]
  rw [ask_zero4]; intro b0 hb0
  refine a_ldc (kn0 X) (by rw [hP]; kernel_rfl) h1 List.not_mem_nil ?_
  refine a_fadP hP fdPB ?_
  refine a_ldc (kn0 X) (by rw [hP]; exact aggIn) h4 List.not_mem_nil ?_
  have hd : i / m ≤ i := Nat.div_le_self _ _
  rw [ask_quoN q1 (by omega)]
  refine call_V hX hS rfl (fun args w => by rw [hP]; exact enters_of (by kernel_rfl) args w) (T := Tw3) (f := 96) rfl (i / m, zs, ()) (fun w hw => ⟨⟨_, _, rfl, rfl, _, _, rfl, ⟨bz, xz, rfl, cell_stp h2 hw.stp List.not_mem_nil, h3.stp0 hw.stp⟩, rfl⟩, q2, show i / m < 2 ^ 62 by omega⟩) fun v w w' hw hk hs hsu hp => ?_
  dsimp only at hp
  subst hp
  refine a_ldc (kn0 X) (by rw [hP]; exact aggLS) h5 List.not_mem_nil ?_
  refine a_fadP hP fdPB ?_
  refine a_ldc (kn0 X) (by rw [hP]; exact aggIn) h4 List.not_mem_nil ?_
  rw [ask_remN q1]
  refine ld_SF hP (kn0 X) h6.1 rfl q3 (fun _ _ => List.not_mem_nil) ?_
  refine call_PE hS (T := Tw3) (f := 49) rfl (_, _) ⟨val_lt _, val_lt _⟩ ?_
  dsimp only
  rw [rF_val, rF_val, ask_aggS]
  exact hR _ _ _ _ fun _ _ => rfl
def ann46 : Ann := ⟨[], [23, 28], 70, [(95, false)], [4, 5], none, [1000007, 1000011], []⟩
def kb46_0 (b0 b1 b2 b3 : Nat) (x0 x1 x5 x6 : Value) : List KB := [⟨b0, true, 45, #[x0, x1]⟩, ⟨b1, true, 29, (aggArr x5)⟩, ⟨b2, true, 29, (aggArr x6)⟩, ⟨b3, true, 112, #[.nilFunc, .nilFunc, .nilFunc]⟩]
def kb46_1 (b0 b1 b2 b3 b4 : Nat) (x0 x1 x5 x6 x11 : Value) : List KB := [⟨b0, true, 45, #[x0, x1]⟩, ⟨b1, true, 29, (aggArr x5)⟩, ⟨b2, true, 29, (aggArr x6)⟩, ⟨b3, true, 112, #[.nilFunc, .nilFunc, .nilFunc]⟩, ⟨b4, true, 28, #[x11]⟩]
def kb46_2 (b0 b1 b2 b3 b4 b5 : Nat) (x0 x1 x5 x6 x11 x16 : Value) : List KB := [⟨b0, true, 45, #[x0, x1]⟩, ⟨b1, true, 29, (aggArr x5)⟩, ⟨b2, true, 29, (aggArr x6)⟩, ⟨b3, true, 112, #[.nilFunc, .nilFunc, .nilFunc]⟩, ⟨b4, true, 28, #[x11]⟩, ⟨b5, true, 28, #[x16]⟩]
def kb46_3 (b0 b1 b2 b3 b4 b5 b6 b7 : Nat) (x0 x1 x5 x6 x29 x30 x31 x11 x16 x21 x23 : Value) : List KB := [⟨b0, true, 45, #[x0, x1]⟩, ⟨b1, true, 29, (aggArr x5)⟩, ⟨b2, true, 29, (aggArr x6)⟩, ⟨b3, true, 112, #[x29, x30, x31]⟩, ⟨b4, true, 28, #[x11]⟩, ⟨b5, true, 28, #[x16]⟩, ⟨b6, true, 28, #[x21]⟩, ⟨b7, true, 110, #[x23]⟩]
def kb46_4 (b0 b1 b2 b3 b4 b5 b6 : Nat) (x0 x1 x5 x6 x11 x16 : Value) : List KB := [⟨b0, true, 45, #[x0, x1]⟩, ⟨b1, true, 29, (aggArr x5)⟩, ⟨b2, true, 29, (aggArr x6)⟩, ⟨b3, true, 112, #[.nilFunc, .nilFunc, .nilFunc]⟩, ⟨b4, true, 28, #[x11]⟩, ⟨b5, true, 28, #[x16]⟩, ⟨b6, true, 28, #[(.slice none 0 0)]⟩]
def kb46_5 (b0 b1 b2 b3 b4 : Nat) (x0 x1 x5 x6 : Value) : List KB := [⟨b0, true, 45, #[x0, x1]⟩, ⟨b1, true, 29, (aggArr x5)⟩, ⟨b2, true, 29, (aggArr x6)⟩, ⟨b3, true, 112, #[.nilFunc, .nilFunc, .nilFunc]⟩, ⟨b4, true, 28, #[(.slice none 0 0)]⟩]
theorem vc46 (X : Ctx) (β : Nat → Nat) (x0 x1 x2 x3 : Value) : (run Tryz.prog ann46 46 [.l [.v 0, .v 1], .x (.v 2), .x (.v 3)] [] [] 5).den X (env0 [x0, x1, x2, x3] X.w0) 5 β 0 (fun _ _ _ => False) = (
 AskNew X.w0 fun b0 =>
 Ask (rAgg 4 x2) fun x5 =>
 AskNew X.w0 fun b1 =>
 Ask (rAgg 4 x3) fun x6 =>
 AskNew X.w0 fun b2 =>
 AskNew X.w0 fun b3 =>
 ((
 AskF X 23 [(.agg #[x0, x1])] fun x7 =>
 AskW X X.w0 [] (kb46_0 b0 b1 b2 b3 x0 x1 x5 x6) false 95 [x5, x7] fun x8 w8 =>
 Ask (rExt X.P x8 0) fun x9 =>
 Ask (rExt X.P x8 1) fun _ =>
 AskNew w8 fun b4 =>
 Ask (rPlain x9) fun x11 =>
 Ask (rBin X.P .add 3 false true x1 (J 2)) fun x12 =>
 AskW X w8 [b4] (kb46_1 b0 b1 b2 b3 b4 x0 x1 x5 x6 x11) false 95 [x6, x12] fun x13 w13 =>
 Ask (rExt X.P x13 0) fun x14 =>
 Ask (rExt X.P x13 1) fun _ =>
 AskNew w13 fun b5 =>
 Ask (rPlain x14) fun x16 =>
 ((
 AskF X 28 [(U 2)] fun x17 =>
 AskW X w13 [b5] (kb46_2 b0 b1 b2 b3 b4 b5 x0 x1 x5 x6 x11 x16) false 95 [x17, x0] fun x18 w18 =>
 Ask (rExt X.P x18 0) fun x19 =>
 Ask (rExt X.P x18 1) fun _ =>
 AskNew w18 fun b6 =>
 Ask (rPlain x19) fun x21 =>
 Ask (rGen X.P (Op.makeFunc (Fn.func 96) #[] #[Operand.tmp 9]) 110 [(9, (.pointer (some ⟨b5, 0, none⟩)))]) fun x22 =>
 AskNew w18 fun b7 =>
 Ask (rPlain x22) fun x23 =>
 Ask (rGen X.P (Op.makeFunc (Fn.func 97) #[] #[Operand.tmp 7]) 110 [(7, (.pointer (some ⟨b4, 0, none⟩)))]) fun x24 =>
 Ask (rGen X.P (Op.makeFunc (Fn.func 98) #[] #[Operand.tmp 13, Operand.tmp 3, Operand.tmp 11]) 110 [(13, (.pointer (some ⟨b7, 0, none⟩))), (3, (.pointer (some ⟨b0, 0, none⟩))), (11, (.pointer (some ⟨b6, 0, none⟩)))]) fun x25 =>
 Ask (rPlain x24) fun x26 =>
 Ask (rPlain x25) fun x27 =>
 Ask (rPlain x23) fun x28 =>
 Ask (rPlain x26) fun x29 =>
 Ask (rPlain x27) fun x30 =>
 Ask (rPlain x28) fun x31 =>
 Ret X w18 [b3, b7, b6] (kb46_3 b0 b1 b2 b3 b4 b5 b6 b7 x0 x1 x5 x6 x29 x30 x31 x11 x16 x21 x23) (.agg #[x29, x30, x31])) ∧ (
 AskNew w13 fun b6 =>
 AskF X 28 [(U 2)] fun x17 =>
 AskW X w13 [b5] (kb46_4 b0 b1 b2 b3 b4 b5 b6 x0 x1 x5 x6 x11 x16) false 95 [x17, x0] fun x18 w18 =>
 Ask (rExt X.P x18 0) fun x19 =>
 Ask (rExt X.P x18 1) fun _ =>
 Ask (rPlain x19) fun x21 =>
 Ask (rGen X.P (Op.makeFunc (Fn.func 96) #[] #[Operand.tmp 9]) 110 [(9, (.pointer (some ⟨b5, 0, none⟩)))]) fun x22 =>
 AskNew w18 fun b7 =>
 Ask (rPlain x22) fun x23 =>
 Ask (rGen X.P (Op.makeFunc (Fn.func 97) #[] #[Operand.tmp 7]) 110 [(7, (.pointer (some ⟨b4, 0, none⟩)))]) fun x24 =>
 Ask (rGen X.P (Op.makeFunc (Fn.func 98) #[] #[Operand.tmp 13, Operand.tmp 3, Operand.tmp 11]) 110 [(13, (.pointer (some ⟨b7, 0, none⟩))), (3, (.pointer (some ⟨b0, 0, none⟩))), (11, (.pointer (some ⟨b6, 0, none⟩)))]) fun x25 =>
 Ask (rPlain x24) fun x26 =>
 Ask (rPlain x25) fun x27 =>
 Ask (rPlain x23) fun x28 =>
 Ask (rPlain x26) fun x29 =>
 Ask (rPlain x27) fun x30 =>
 Ask (rPlain x28) fun x31 =>
 Ret X w18 [b3, b7, b6] (kb46_3 b0 b1 b2 b3 b4 b5 b6 b7 x0 x1 x5 x6 x29 x30 x31 x11 x16 x21 x23) (.agg #[x29, x30, x31])))) ∧ (
 AskNew X.w0 fun b4 =>
 AskF X 23 [(.agg #[x0, x1])] fun x7 =>
 AskW X X.w0 [] (kb46_5 b0 b1 b2 b3 b4 x0 x1 x5 x6) false 95 [x5, x7] fun x8 w8 =>
 Ask (rExt X.P x8 0) fun x9 =>
 Ask (rExt X.P x8 1) fun _ =>
 Ask (rPlain x9) fun x11 =>
 Ask (rBin X.P .add 3 false true x1 (J 2)) fun x12 =>
 AskW X w8 [b4] (kb46_1 b0 b1 b2 b3 b4 x0 x1 x5 x6 x11) false 95 [x6, x12] fun x13 w13 =>
 Ask (rExt X.P x13 0) fun x14 =>
 Ask (rExt X.P x13 1) fun _ =>
 AskNew w13 fun b5 =>
 Ask (rPlain x14) fun x16 =>
 ((
 AskF X 28 [(U 2)] fun x17 =>
 AskW X w13 [b5] (kb46_2 b0 b1 b2 b3 b4 b5 x0 x1 x5 x6 x11 x16) false 95 [x17, x0] fun x18 w18 =>
 Ask (rExt X.P x18 0) fun x19 =>
 Ask (rExt X.P x18 1) fun _ =>
 AskNew w18 fun b6 =>
 Ask (rPlain x19) fun x21 =>
 Ask (rGen X.P (Op.makeFunc (Fn.func 96) #[] #[Operand.tmp 9]) 110 [(9, (.pointer (some ⟨b5, 0, none⟩)))]) fun x22 =>
 AskNew w18 fun b7 =>
 Ask (rPlain x22) fun x23 =>
 Ask (rGen X.P (Op.makeFunc (Fn.func 97) #[] #[Operand.tmp 7]) 110 [(7, (.pointer (some ⟨b4, 0, none⟩)))]) fun x24 =>
 Ask (rGen X.P (Op.makeFunc (Fn.func 98) #[] #[Operand.tmp 13, Operand.tmp 3, Operand.tmp 11]) 110 [(13, (.pointer (some ⟨b7, 0, none⟩))), (3, (.pointer (some ⟨b0, 0, none⟩))), (11, (.pointer (some ⟨b6, 0, none⟩)))]) fun x25 =>
 Ask (rPlain x24) fun x26 =>
 Ask (rPlain x25) fun x27 =>
 Ask (rPlain x23) fun x28 =>
 Ask (rPlain x26) fun x29 =>
 Ask (rPlain x27) fun x30 =>
 Ask (rPlain x28) fun x31 =>
 Ret X w18 [b3, b7, b6] (kb46_3 b0 b1 b2 b3 b4 b5 b6 b7 x0 x1 x5 x6 x29 x30 x31 x11 x16 x21 x23) (.agg #[x29, x30, x31])) ∧ (
 AskNew w13 fun b6 =>
 AskF X 28 [(U 2)] fun x17 =>
 AskW X w13 [b5] (kb46_4 b0 b1 b2 b3 b4 b5 b6 x0 x1 x5 x6 x11 x16) false 95 [x17, x0] fun x18 w18 =>
 Ask (rExt X.P x18 0) fun x19 =>
 Ask (rExt X.P x18 1) fun _ =>
 Ask (rPlain x19) fun x21 =>
 Ask (rGen X.P (Op.makeFunc (Fn.func 96) #[] #[Operand.tmp 9]) 110 [(9, (.pointer (some ⟨b5, 0, none⟩)))]) fun x22 =>
 AskNew w18 fun b7 =>
 Ask (rPlain x22) fun x23 =>
 Ask (rGen X.P (Op.makeFunc (Fn.func 97) #[] #[Operand.tmp 7]) 110 [(7, (.pointer (some ⟨b4, 0, none⟩)))]) fun x24 =>
 Ask (rGen X.P (Op.makeFunc (Fn.func 98) #[] #[Operand.tmp 13, Operand.tmp 3, Operand.tmp 11]) 110 [(13, (.pointer (some ⟨b7, 0, none⟩))), (3, (.pointer (some ⟨b0, 0, none⟩))), (11, (.pointer (some ⟨b6, 0, none⟩)))]) fun x25 =>
 Ask (rPlain x24) fun x26 =>
 Ask (rPlain x25) fun x27 =>
 Ask (rPlain x23) fun x28 =>
 Ask (rPlain x26) fun x29 =>
 Ask (rPlain x27) fun x30 =>
 Ask (rPlain x28) fun x31 =>
 Ret X w18 [b3, b7, b6] (kb46_3 b0 b1 b2 b3 b4 b5 b6 b7 x0 x1 x5 x6 x29 x30 x31 x11 x16 x21 x23) (.agg #[x29, x30, x31])))))) := by kernel_rfl
/-- Weights, in variables of their own. -/
structure WtsAt (lo hi : Nat) (w : World) (ys zs ts : List F) (m cy cz cp ct cv : Nat) (xy xz xt : Value) : Prop where
  hy : w.cell? ⟨cy, 0, none⟩ = some xy
  hz : w.cell? ⟨cz, 0, none⟩ = some xz
  ht : w.cell? ⟨ct, 0, none⟩ = some xt
  hp : w.cell? ⟨cp, 0, none⟩ = some (J m)
  hv : w.cell? ⟨cv, 0, none⟩ = some (Fv cz)
  ly : LsF w xy ys
  lz : LsF w xz zs
  lt : LsF w xt ts
  cs : ∀ b ∈ [cy, cz, cp, ct, cv], lo ≤ b ∧ b < hi
  bs : ∀ x ∈ [xy, xz, xt], ∀ g, x.ownBlock = some g → lo ≤ g ∧ g < hi
theorem WtsAt.stp {lo hi : Nat} {w w' : World} {ys zs ts : List F} {m cy cz cp ct cv : Nat} {xy xz xt : Value} {ex : List Nat} (h : WtsAt lo hi w ys zs ts m cy cz cp ct cv xy xz xt) (hs : Stp ex w w') (he : ∀ b ∈ ex, b < lo ∨ hi ≤ b) : WtsAt lo hi w' ys zs ts m cy cz cp ct cv xy xz xt := by
  have c : ∀ {b : Nat}, b ∈ [cy, cz, cp, ct, cv] → b ∉ ex := fun hb hm => by
    have := h.cs _ hb; have := he _ hm; omega
  have g : ∀ {x : Value}, x ∈ [xy, xz, xt] → ∀ g, x.ownBlock = some g → g ∉ ex := fun hx g hg hm => by
    have := h.bs _ hx g hg; have := he _ hm; omega
  exact ⟨cell_stp h.hy hs (c (by simp)), cell_stp h.hz hs (c (by simp)), cell_stp h.ht hs (c (by simp)), cell_stp h.hp hs (c (by simp)), cell_stp h.hv hs (c (by simp)), h.ly.stp hs (g (by simp)), h.lz.stp hs (g (by simp)), h.lt.stp hs (g (by simp)), h.cs, h.bs⟩
theorem cell_kb {X : Ctx} {u w : World} {ow : List Nat} {bl : List KB} (hw : KnownV X u ow bl w) {b t : Nat} {cs : Array Value} {v : Value} (h : (⟨b, true, t, cs⟩ : KB) ∈ bl) (o : Nat) (hv : cs[o]? = some v) : w.cell? ⟨b, o, none⟩ = some v := by
  have := (hw.blk _ h).1
  simp only [if_true] at this
  simp [World.cell?, this, hv]
theorem ask_makeFn {P : Program} {K : Value → Prop} {f ty : Nat} {cs : Array Operand} {l : List (Nat × Value)} {ps : Array Value} (h : cs.map (argsFn l) = ps) : Ask (rGen P (.makeFunc (.func f) #[] cs) ty l) K = K (.func (.func f) #[] ps) :=
  ask_eq (runsN_iff fun w => by simp [execOp, Instr.makeFunc, h])
def cWgh : Contract := fnW (Cods.cons cPn (Cods.cons cS (Cods.cons cS Cods.nil))) (fun p _ => 0 < p.1.1 ∧ p.1.1 ≤ 64 ∧ p.1.2 ≤ 16)
  (fun p w v w' => ∃ cy cz cp ct cv xy xz xt, v = .agg #[Fy cy, Fb cv cp ct, Fv cz] ∧ WtsAt w.heap.size w'.heap.size w' (mapN (fp (rF p.2.1)) (p.1.1 * p.1.2)) (mapN (fp (rF p.2.2.1)) (p.1.2 + 2)) (mapN (fp (rF 2)) p.1.1) p.1.1 cy cz cp ct cv xy xz xt)
def Twg : Table := ((T0.add 95 cPws).add 23 cSize).add 28 cRInt
theorem keepTwg : AllKeep Tryz.prog GT Twg := ((keepT0.add keepsPws).add keepsSize).add keepsSInt
theorem lsF_own {w : World} {b n e : Nat} {x : Value} {l : List F} (h : w.ownsRow b e 4 x n (l.flatMap encF)) (hl : l.length = n) : LsF w x l := ⟨by rw [hl]; exact own_slAt h, fun _ _ => trivial⟩
theorem keepsWgh : Keeps1 Tryz.prog GT 46 cWgh := by
  refine keepsW (T := Twg) (A := ann46) hMix keepTwg hGT (calls_of (by kernel_rfl)) (callsW_of (by kernel_rfl)) fun args ⟨⟨m, n⟩, y, z, _⟩ w0 hrd hpre _ => ?_
  obtain ⟨_, _, rfl, rfl, _, _, rfl, ⟨rfl, hy⟩, _, _, rfl, ⟨rfl, hz⟩, rfl⟩ := hrd
  obtain ⟨hm0, hm1, hn1⟩ := hpre
  dsimp only at hm0 hm1 hn1 hy hz
  refine ⟨[.l [.v 0, .v 1], .x (.v 2), .x (.v 3)], [], [], 5, env0 [J m, J n, S y, S z] w0, fun b => b, 0, rfl, rfl, fun X hX => mem_none hX rfl, fun X hP hS hw hX hR => ?_⟩
  subst hw; try dsimp only at hR
  rw [vc46 X]
  have hN : m * n ≤ 1024 := Nat.le_trans (Nat.mul_le_mul hm1 hn1) (by decide)
  have pw : ∀ (a n : Nat) {u : World} {ow : List Nat} {bl : List KB} {K : Value → World → Prop}, a < W256 → n ≤ 1024 → (∀ x w w', KnownV X u ow bl w → Kn X w' → Stp [] w w' → Stp ow u w' → w'.ownsRow w.heap.size 29 4 x n ((mapN (fp (rF a)) n).flatMap encF) → K (.tuple #[x, J 0]) w') → AskW X u ow bl false 95 [S a, J n] K := fun a n u ow bl K ha hn hK => by
    refine call_W hX hS (T := Twg) (f := 95) rfl (a, n, ()) (fun w hw => ⟨⟨_, _, rfl, ⟨rfl, ha⟩, _, _, rfl, rfl, rfl⟩, hn⟩) fun v w w' hw hk hs hsu hp => ?_
    obtain ⟨x, rfl, ho⟩ := hp
    exact hK x w w' hw hk hs hsu ho
  intro b0 hb0
  rw [ask_aggS]; intro b1 hb1
  rw [ask_aggS]; intro b2 hb2 b3 hb3
  have size : ∀ {K' : Value → Prop}, K' (J (m * n)) → AskF X 23 [.agg #[J m, J n]] K' := fun hK => call_PE hS (T := Twg) (f := 23) rfl ((m : Int), (n : Int)) trivial (by dsimp only; rw [sizeI_nat (by omega)]; exact hK)
  refine ⟨?_, ?_⟩
  · refine size ?_
    refine pw y (m * n) hy hN fun xy u8 w8 h8 k8 s8 su8 oy => ?_
    rw [ask_ext0, ask_ext1]
    intro b4 hb4
    refine a_plain (own_one oy) ?_
    rw [ask_addN (by omega)]
    refine pw z (n + 2) hz (by omega) fun xz u13 w13 h13 k13 s13 su13 oz13 => ?_
    rw [ask_ext0, ask_ext1]
    intro b5 hb5
    refine a_plain (own_one oz13) ?_
    have low8 : ∀ {b : Nat}, b ∈ [b0, b1, b2, b3] → b < u8.heap.size := fun hb => h8.low (by simpa [kb46_0] using hb)
    have zs8 := s8.size; have zs13 := s13.size; have zu13 := h13.size; have zu8 := h8.size
    have l3 : b3 < u8.heap.size := low8 (by simp)
    have oy13 := own_stp oy su13 (fun g hg hm => by have := oy.lt g hg; simp at hm; omega)
    have yb3 : ∀ g, xy.ownBlock = some g → b3 < g := fun g hg => by have := oy.lt g hg; omega
    have zb3 : ∀ g, xz.ownBlock = some g → b3 < g := fun g hg => by have := oz13.lt g hg; omega
    have z4 : X.w0.heap.size ≤ b4 := by have := k8.sz0; omega
    have z5 : X.w0.heap.size ≤ b5 := by have := k13.sz0; omega
    refine ⟨?_, ?_⟩
    · refine call_PE hS (T := Twg) (f := 28) rfl 2 (by decide) ?_
      refine pw 2 m (by decide) (by omega) fun xt u18 w18 h18 k18 s18 su18 ot18 => ?_
      rw [ask_ext0, ask_ext1]
      intro b6 hb6
      refine a_plain (own_one ot18) ?_
      have low18 : ∀ {b : Nat}, b ∈ [b0, b1, b2, b3, b4, b5] → b < u18.heap.size := fun hb => h18.low (by simpa [kb46_2] using hb)
      have su18' : Stp [] w13 w18 := su18.drop (by simpa using hb5)
      have zs18 := s18.size
      have l3 : b3 < u18.heap.size := low18 (by simp)
      have yb6 : ∀ g, xy.ownBlock = some g → g < b6 := fun g hg => by have := (oy13.lt g hg); have := su18.size; omega
      have zb6 : ∀ g, xz.ownBlock = some g → g < b6 := fun g hg => by have := (oz13.lt g hg); have := su18.size; omega
      have tb6 : ∀ g, xt.ownBlock = some g → g ≠ b6 := fun g hg => by have := (ot18.lt g hg); omega
      have tb3 : ∀ g, xt.ownBlock = some g → b3 < g := fun g hg => by have := (ot18.lt g hg); omega
      have z6 : X.w0.heap.size ≤ b6 := by have := k18.sz0; omega
      rw [ask_makeFn (ps := #[Pt b5]) (by simp [argsFn])]
      intro b7 hb7
      refine a_plain rfl ?_
      rw [ask_makeFn (ps := #[Pt b4]) (by simp [argsFn]), ask_makeFn (ps := #[Pt b7, Pt b0, Pt b6]) (by simp [argsFn])]
      iterate 6 refine a_plain rfl ?_
      refine hR _ _ _ _ fun w hw => ?_
      have low : ∀ {b : Nat}, b ∈ [b0, b1, b2, b3, b4, b5, b6, b7] → b < w.heap.size := fun hb => hw.low (by simpa [kb46_3] using hb)
      have z18 := su18.size
      have zw := hw.size
      have oy18 := own_stp0 oy13 su18'
      have oz18 := own_stp0 oz13 su18'
      have ny : ∀ g, xy.ownBlock = some g → g ∉ [b3, b7, b6] := fun g hg hm => by
        have h1 := (oy18.lt g hg)
        have h2 := yb6 g hg
        have h3 := yb3 g hg
        simp only [List.mem_cons, List.not_mem_nil, or_false] at hm
        omega
      have nz : ∀ g, xz.ownBlock = some g → g ∉ [b3, b7, b6] := fun g hg hm => by
        have h1 := (oz18.lt g hg)
        have h2 := zb6 g hg
        have h3 := zb3 g hg
        simp only [List.mem_cons, List.not_mem_nil, or_false] at hm
        omega
      have nt : ∀ g, xt.ownBlock = some g → g ∉ [b3, b7, b6] := fun g hg hm => by
        have h1 := (ot18.lt g hg)
        have h2 := tb6 g hg
        have h3 := tb3 g hg
        simp only [List.mem_cons, List.not_mem_nil, or_false] at hm
        omega
      have oyw := own_stp oy18 hw.stp ny
      have ozw := own_stp oz18 hw.stp nz
      have otw := own_stp ot18 hw.stp nt
      refine ⟨b4, b5, b0, b6, b7, xy, xz, xt, rfl, cell_kb hw (List.mem_of_getElem? (i := 4) rfl) 0 rfl, cell_kb hw (List.mem_of_getElem? (i := 5) rfl) 0 rfl, cell_kb hw (List.mem_of_getElem? (i := 6) rfl) 0 rfl, cell_kb hw (List.mem_of_getElem? (i := 0) rfl) 0 rfl, cell_kb hw (List.mem_of_getElem? (i := 7) rfl) 0 rfl, lsF_own oyw (mapN_len _ _), lsF_own ozw (mapN_len _ _), lsF_own otw (mapN_len _ _), ?_, ?_⟩
      · intro b hb
        simp only [List.mem_cons, List.not_mem_nil, or_false] at hb
        refine ⟨by omega, low ?_⟩
        rcases hb with rfl | rfl | rfl | rfl | rfl <;> simp
      · intro x hx g hg
        simp only [List.mem_cons, List.not_mem_nil, or_false] at hx
        rcases hx with rfl | rfl | rfl
        · have := oyw.lt g hg; omega
        · have := ozw.lt g hg; omega
        · have := otw.lt g hg; omega
    · intro b6 hb6
      refine call_PE hS (T := Twg) (f := 28) rfl 2 (by decide) ?_
      refine pw 2 m (by decide) (by omega) fun xt u18 w18 h18 k18 s18 su18 ot18 => ?_
      rw [ask_ext0, ask_ext1]
      refine a_plain (own_one ot18) ?_
      have low18 : ∀ {b : Nat}, b ∈ [b0, b1, b2, b3, b4, b5, b6] → b < u18.heap.size := fun hb => h18.low (by simpa [kb46_4] using hb)
      have su18' : Stp [] w13 w18 := su18.drop (by simpa using hb5)
      have zs18 := s18.size
      have l3 : b3 < u18.heap.size := low18 (by simp)
      have l6 : b6 < u18.heap.size := low18 (by simp)
      have yb6 : ∀ g, xy.ownBlock = some g → g < b6 := fun g hg => by have := (oy13.lt g hg); omega
      have zb6 : ∀ g, xz.ownBlock = some g → g < b6 := fun g hg => by have := (oz13.lt g hg); omega
      have tb6 : ∀ g, xt.ownBlock = some g → g ≠ b6 := fun g hg => by have := (ot18.lt g hg); omega
      have tb3 : ∀ g, xt.ownBlock = some g → b3 < g := fun g hg => by have := (ot18.lt g hg); omega
      have z6 : X.w0.heap.size ≤ b6 := by have := k13.sz0; omega
      rw [ask_makeFn (ps := #[Pt b5]) (by simp [argsFn])]
      intro b7 hb7
      refine a_plain rfl ?_
      rw [ask_makeFn (ps := #[Pt b4]) (by simp [argsFn]), ask_makeFn (ps := #[Pt b7, Pt b0, Pt b6]) (by simp [argsFn])]
      iterate 6 refine a_plain rfl ?_
      refine hR _ _ _ _ fun w hw => ?_
      have low : ∀ {b : Nat}, b ∈ [b0, b1, b2, b3, b4, b5, b6, b7] → b < w.heap.size := fun hb => hw.low (by simpa [kb46_3] using hb)
      have z18 := su18.size
      have zw := hw.size
      have oy18 := own_stp0 oy13 su18'
      have oz18 := own_stp0 oz13 su18'
      have ny : ∀ g, xy.ownBlock = some g → g ∉ [b3, b7, b6] := fun g hg hm => by
        have h1 := (oy18.lt g hg)
        have h2 := yb6 g hg
        have h3 := yb3 g hg
        simp only [List.mem_cons, List.not_mem_nil, or_false] at hm
        omega
      have nz : ∀ g, xz.ownBlock = some g → g ∉ [b3, b7, b6] := fun g hg hm => by
        have h1 := (oz18.lt g hg)
        have h2 := zb6 g hg
        have h3 := zb3 g hg
        simp only [List.mem_cons, List.not_mem_nil, or_false] at hm
        omega
      have nt : ∀ g, xt.ownBlock = some g → g ∉ [b3, b7, b6] := fun g hg hm => by
        have h1 := (ot18.lt g hg)
        have h2 := tb6 g hg
        have h3 := tb3 g hg
        simp only [List.mem_cons, List.not_mem_nil, or_false] at hm
        omega
      have oyw := own_stp oy18 hw.stp ny
      have ozw := own_stp oz18 hw.stp nz
      have otw := own_stp ot18 hw.stp nt
      refine ⟨b4, b5, b0, b6, b7, xy, xz, xt, rfl, cell_kb hw (List.mem_of_getElem? (i := 4) rfl) 0 rfl, cell_kb hw (List.mem_of_getElem? (i := 5) rfl) 0 rfl, cell_kb hw (List.mem_of_getElem? (i := 6) rfl) 0 rfl, cell_kb hw (List.mem_of_getElem? (i := 0) rfl) 0 rfl, cell_kb hw (List.mem_of_getElem? (i := 7) rfl) 0 rfl, lsF_own oyw (mapN_len _ _), lsF_own ozw (mapN_len _ _), lsF_own otw (mapN_len _ _), ?_, ?_⟩
      · intro b hb
        simp only [List.mem_cons, List.not_mem_nil, or_false] at hb
        refine ⟨by omega, low ?_⟩
        rcases hb with rfl | rfl | rfl | rfl | rfl <;> simp
      · intro x hx g hg
        simp only [List.mem_cons, List.not_mem_nil, or_false] at hx
        rcases hx with rfl | rfl | rfl
        · have := oyw.lt g hg; omega
        · have := ozw.lt g hg; omega
        · have := otw.lt g hg; omega
  · intro b4 hb4
    refine size ?_
    refine pw y (m * n) hy hN fun xy u8 w8 h8 k8 s8 su8 oy => ?_
    rw [ask_ext0, ask_ext1]
    refine a_plain (own_one oy) ?_
    rw [ask_addN (by omega)]
    refine pw z (n + 2) hz (by omega) fun xz u13 w13 h13 k13 s13 su13 oz13 => ?_
    rw [ask_ext0, ask_ext1]
    intro b5 hb5
    refine a_plain (own_one oz13) ?_
    have low8 : ∀ {b : Nat}, b ∈ [b0, b1, b2, b3, b4] → b < u8.heap.size := fun hb => h8.low (by simpa [kb46_5] using hb)
    have zs8 := s8.size; have zs13 := s13.size; have zu13 := h13.size; have zu8 := h8.size
    have l3 : b3 < u8.heap.size := low8 (by simp)
    have l4 : b4 < u8.heap.size := low8 (by simp)
    have oy13 := own_stp oy su13 (fun g hg hm => by have := oy.lt g hg; simp at hm; omega)
    have yb3 : ∀ g, xy.ownBlock = some g → b3 < g := fun g hg => by have := oy.lt g hg; omega
    have zb3 : ∀ g, xz.ownBlock = some g → b3 < g := fun g hg => by have := oz13.lt g hg; omega
    have z4 : X.w0.heap.size ≤ b4 := hb4
    have z5 : X.w0.heap.size ≤ b5 := by have := k13.sz0; omega
    refine ⟨?_, ?_⟩
    · refine call_PE hS (T := Twg) (f := 28) rfl 2 (by decide) ?_
      refine pw 2 m (by decide) (by omega) fun xt u18 w18 h18 k18 s18 su18 ot18 => ?_
      rw [ask_ext0, ask_ext1]
      intro b6 hb6
      refine a_plain (own_one ot18) ?_
      have low18 : ∀ {b : Nat}, b ∈ [b0, b1, b2, b3, b4, b5] → b < u18.heap.size := fun hb => h18.low (by simpa [kb46_2] using hb)
      have su18' : Stp [] w13 w18 := su18.drop (by simpa using hb5)
      have zs18 := s18.size
      have l3 : b3 < u18.heap.size := low18 (by simp)
      have yb6 : ∀ g, xy.ownBlock = some g → g < b6 := fun g hg => by have := (oy13.lt g hg); have := su18.size; omega
      have zb6 : ∀ g, xz.ownBlock = some g → g < b6 := fun g hg => by have := (oz13.lt g hg); have := su18.size; omega
      have tb6 : ∀ g, xt.ownBlock = some g → g ≠ b6 := fun g hg => by have := (ot18.lt g hg); omega
      have tb3 : ∀ g, xt.ownBlock = some g → b3 < g := fun g hg => by have := (ot18.lt g hg); omega
      have z6 : X.w0.heap.size ≤ b6 := by have := k18.sz0; omega
      rw [ask_makeFn (ps := #[Pt b5]) (by simp [argsFn])]
      intro b7 hb7
      refine a_plain rfl ?_
      rw [ask_makeFn (ps := #[Pt b4]) (by simp [argsFn]), ask_makeFn (ps := #[Pt b7, Pt b0, Pt b6]) (by simp [argsFn])]
      iterate 6 refine a_plain rfl ?_
      refine hR _ _ _ _ fun w hw => ?_
      have low : ∀ {b : Nat}, b ∈ [b0, b1, b2, b3, b4, b5, b6, b7] → b < w.heap.size := fun hb => hw.low (by simpa [kb46_3] using hb)
      have z18 := su18.size
      have zw := hw.size
      have oy18 := own_stp0 oy13 su18'
      have oz18 := own_stp0 oz13 su18'
      have ny : ∀ g, xy.ownBlock = some g → g ∉ [b3, b7, b6] := fun g hg hm => by
        have h1 := (oy18.lt g hg)
        have h2 := yb6 g hg
        have h3 := yb3 g hg
        simp only [List.mem_cons, List.not_mem_nil, or_false] at hm
        omega
      have nz : ∀ g, xz.ownBlock = some g → g ∉ [b3, b7, b6] := fun g hg hm => by
        have h1 := (oz18.lt g hg)
        have h2 := zb6 g hg
        have h3 := zb3 g hg
        simp only [List.mem_cons, List.not_mem_nil, or_false] at hm
        omega
      have nt : ∀ g, xt.ownBlock = some g → g ∉ [b3, b7, b6] := fun g hg hm => by
        have h1 := (ot18.lt g hg)
        have h2 := tb6 g hg
        have h3 := tb3 g hg
        simp only [List.mem_cons, List.not_mem_nil, or_false] at hm
        omega
      have oyw := own_stp oy18 hw.stp ny
      have ozw := own_stp oz18 hw.stp nz
      have otw := own_stp ot18 hw.stp nt
      refine ⟨b4, b5, b0, b6, b7, xy, xz, xt, rfl, cell_kb hw (List.mem_of_getElem? (i := 4) rfl) 0 rfl, cell_kb hw (List.mem_of_getElem? (i := 5) rfl) 0 rfl, cell_kb hw (List.mem_of_getElem? (i := 6) rfl) 0 rfl, cell_kb hw (List.mem_of_getElem? (i := 0) rfl) 0 rfl, cell_kb hw (List.mem_of_getElem? (i := 7) rfl) 0 rfl, lsF_own oyw (mapN_len _ _), lsF_own ozw (mapN_len _ _), lsF_own otw (mapN_len _ _), ?_, ?_⟩
      · intro b hb
        simp only [List.mem_cons, List.not_mem_nil, or_false] at hb
        refine ⟨by omega, low ?_⟩
        rcases hb with rfl | rfl | rfl | rfl | rfl <;> simp
      · intro x hx g hg
        simp only [List.mem_cons, List.not_mem_nil, or_false] at hx
        rcases hx with rfl | rfl | rfl
        · have := oyw.lt g hg; omega
        · have := ozw.lt g hg; omega
        · have := otw.lt g hg; omega
    · intro b6 hb6
      refine call_PE hS (T := Twg) (f := 28) rfl 2 (by decide) ?_
      refine pw 2 m (by decide) (by omega) fun xt u18 w18 h18 k18 s18 su18 ot18 => ?_
      rw [ask_ext0, ask_ext1]
      refine a_plain (own_one ot18) ?_
      have low18 : ∀ {b : Nat}, b ∈ [b0, b1, b2, b3, b4, b5, b6] → b < u18.heap.size := fun hb => h18.low (by simpa [kb46_4] using hb)
      have su18' : Stp [] w13 w18 := su18.drop (by simpa using hb5)
      have zs18 := s18.size
      have l3 : b3 < u18.heap.size := low18 (by simp)
      have l6 : b6 < u18.heap.size := low18 (by simp)
      have yb6 : ∀ g, xy.ownBlock = some g → g < b6 := fun g hg => by have := (oy13.lt g hg); omega
      have zb6 : ∀ g, xz.ownBlock = some g → g < b6 := fun g hg => by have := (oz13.lt g hg); omega
      have tb6 : ∀ g, xt.ownBlock = some g → g ≠ b6 := fun g hg => by have := (ot18.lt g hg); omega
      have tb3 : ∀ g, xt.ownBlock = some g → b3 < g := fun g hg => by have := (ot18.lt g hg); omega
      have z6 : X.w0.heap.size ≤ b6 := by have := k13.sz0; omega
      rw [ask_makeFn (ps := #[Pt b5]) (by simp [argsFn])]
      intro b7 hb7
      refine a_plain rfl ?_
      rw [ask_makeFn (ps := #[Pt b4]) (by simp [argsFn]), ask_makeFn (ps := #[Pt b7, Pt b0, Pt b6]) (by simp [argsFn])]
      iterate 6 refine a_plain rfl ?_
      refine hR _ _ _ _ fun w hw => ?_
      have low : ∀ {b : Nat}, b ∈ [b0, b1, b2, b3, b4, b5, b6, b7] → b < w.heap.size := fun hb => hw.low (by simpa [kb46_3] using hb)
      have z18 := su18.size
      have zw := hw.size
      have oy18 := own_stp0 oy13 su18'
      have oz18 := own_stp0 oz13 su18'
      have ny : ∀ g, xy.ownBlock = some g → g ∉ [b3, b7, b6] := fun g hg hm => by
        have h1 := (oy18.lt g hg)
        have h2 := yb6 g hg
        have h3 := yb3 g hg
        simp only [List.mem_cons, List.not_mem_nil, or_false] at hm
        omega
      have nz : ∀ g, xz.ownBlock = some g → g ∉ [b3, b7, b6] := fun g hg hm => by
        have h1 := (oz18.lt g hg)
        have h2 := zb6 g hg
        have h3 := zb3 g hg
        simp only [List.mem_cons, List.not_mem_nil, or_false] at hm
        omega
      have nt : ∀ g, xt.ownBlock = some g → g ∉ [b3, b7, b6] := fun g hg hm => by
        have h1 := (ot18.lt g hg)
        have h2 := tb6 g hg
        have h3 := tb3 g hg
        simp only [List.mem_cons, List.not_mem_nil, or_false] at hm
        omega
      have oyw := own_stp oy18 hw.stp ny
      have ozw := own_stp oz18 hw.stp nz
      have otw := own_stp ot18 hw.stp nt
      refine ⟨b4, b5, b0, b6, b7, xy, xz, xt, rfl, cell_kb hw (List.mem_of_getElem? (i := 4) rfl) 0 rfl, cell_kb hw (List.mem_of_getElem? (i := 5) rfl) 0 rfl, cell_kb hw (List.mem_of_getElem? (i := 6) rfl) 0 rfl, cell_kb hw (List.mem_of_getElem? (i := 0) rfl) 0 rfl, cell_kb hw (List.mem_of_getElem? (i := 7) rfl) 0 rfl, lsF_own oyw (mapN_len _ _), lsF_own ozw (mapN_len _ _), lsF_own otw (mapN_len _ _), ?_, ?_⟩
      · intro b hb
        simp only [List.mem_cons, List.not_mem_nil, or_false] at hb
        refine ⟨by omega, low ?_⟩
        rcases hb with rfl | rfl | rfl | rfl | rfl <;> simp
      · intro x hx g hg
        simp only [List.mem_cons, List.not_mem_nil, or_false] at hx
        rcases hx with rfl | rfl | rfl
        · have := oyw.lt g hg; omega
        · have := ozw.lt g hg; omega
        · have := otw.lt g hg; omega
#print axioms keepsWgh
end Go.Vc
