import Derived.Test.YtcnmnmhmmgjblaaGreatDoorDJc
/-
  Inner products, mixtures, the prover's plan, over the scalars.
-/
namespace Go.Vc
open Go Go.Proofs Go.RowKit
/-! ### lists of least scalars as lists of scalars -/
theorem lsF_toS {w : World} {v : Value} {l : List F} (h : LsF w v l) : LsS w v (l.map (·.val)) := by
  refine ⟨?_, fun x hx => ?_⟩
  · have e : (l.map (·.val)).flatMap encS = l.flatMap encF := by rw [List.flatMap_map]; rfl
    rw [List.length_map, e]; exact h.1
  · obtain ⟨f, _, rfl⟩ := List.mem_map.1 hx
    exact val_lt f
theorem getD_val (l : List F) (i : Nat) : rF ((l.map (·.val)).getD i 0) = l.getD i 0 := by
  rw [List.getD_eq_getElem?_getD, List.getD_eq_getElem?_getD, List.getElem?_map]
  cases h : l[i]? with
  | none => rfl
  | some f => exact rF_val f
theorem own_F {w : World} {b n e : Nat} {x : Value} {f : Nat → F} (h : w.ownsRow b e 4 x n ((mapN f n).flatMap encF)) : LsF w x (mapN f n) := ⟨by rw [mapN_len]; exact own_slAt h, fun _ _ => trivial⟩
/-! ### Inner -/
theorem methSAdd (a k : Nat) : Meth Tryz.prog (.iface 29 (S a)) "Add" [S k] 29 [S a, S k] := fun w => by kernel_rfl
theorem methSMul (a k : Nat) : Meth Tryz.prog (.iface 29 (S a)) "Mul" [S k] 49 [S a, S k] := fun w => by kernel_rfl
theorem makeJS (x : Value) (w : World) : (Instr.makeInterface 29 x).run Tryz.prog w = .ok (.iface 29 x) w := by kernel_rfl
theorem a_mkS {K : Value → Prop} {P : Program} {a ty : Nat} {x : Value} (hP : P = Tryz.prog) (hK : K (.iface 29 x)) : Ask (rGen P (.makeInterface 29 (.tmp a)) ty [(a, x)]) K := by
  subst hP; rw [ask_makeIn (makeJS _)]; exact hK
def ann67 : Ann := ⟨[(5, ([17], [1]))], [29, 49], 70, [], [4, 6, 8], none, [], []⟩
def kb67_0 (b0 b1 : Nat) (x3 x4 : Value) : List KB := [⟨b0, true, 29, (aggArr x3)⟩, ⟨b1, true, 29, (aggArr x4)⟩]
theorem vc67 (X : Ctx) (β : Nat → Nat) (x0 x1 : Value) : (run Tryz.prog ann67 67 [.x (.v 0), .x (.v 1)] [] [] 3).den X (env0 [x0, x1] X.w0) 3 β 0 (fun _ _ _ => False) = (
 Ask (rAgg 4 (.agg #[(U 0), (U 0), (U 0), (U 0)])) fun x3 =>
 AskNew X.w0 fun b0 =>
 Ask (rAgg 4 (.agg #[(U 0), (U 0), (U 0), (U 0)])) fun x4 =>
 AskNew X.w0 fun b1 =>
 Ask (rLen X.P 28 x0) fun x5 =>
 Ask (rLen X.P 28 x1) fun x6 =>
 Ask (rBin X.P .neq 3 false false x5 x6) fun x7 =>
 (∃ t, x7 = .bool t) ∧ (x7 = .bool true →
 Ask (rAgg 4 x4) fun x8 =>
 Ret X X.w0 [b0] [] (.tuple #[x8, (J 2)])) ∧ (x7 = .bool false →
 Ask (rLen X.P 28 x0) fun x8 =>
 ∃ (I0 : List Value → World → Prop) (μ0 : List Value → World → Nat), (∀ w, KnownV X X.w0 [] (kb67_0 b0 b1 x3 x4) w → I0 [(J 0), x4] w) ∧ ∀ x9 x10 w11, I0 [x9, x10] w11 →
 Ask (rBin X.P .lss 3 false false x9 x8) fun x12 =>
 (∃ t, x12 = .bool t) ∧ (x12 = .bool true →
 Ask (rIad X.P 28 x0 x9) fun x13 =>
 Ask (rLoad X w11 [] 29 x13) fun x14 =>
 Ask (rAgg 4 (.agg #[(U 0), (U 0), (U 0), (U 0)])) fun _ =>
 AskNew w11 fun b2 =>
 Ask (rAgg 4 x14) fun x16 =>
 Ask (rGen X.P (Op.makeInterface 29 (Operand.tmp 22)) 20 [(22, x10)]) fun x17 =>
 Ask (rGen X.P (Op.makeInterface 29 (Operand.tmp 24)) 20 [(24, x16)]) fun x18 =>
 Ask (rIad X.P 28 x1 x9) fun x19 =>
 Ask (rLoad X w11 [b2] 29 x19) fun x20 =>
 AskI X x18 "Mul" [x20] fun x21 =>
 AskI X x17 "Add" [x21] fun x22 =>
 Ask (rAgg 4 x22) fun x23 =>
 Ask (rBin X.P .add 3 false true x9 (J 1)) fun x24 =>
 Again X w11 [b1, b2] [] fun w => I0 [x24, x23] w ∧ μ0 [x24, x23] w < μ0 [x9, x10] w11) ∧ (x12 = .bool false →
 Ask (rAgg 4 x10) fun x13 =>
 Ret X w11 [b0] [] (.tuple #[x13, (J 0)])))) := by kernel_rfl
def cInn : Contract := fnW (Cods.cons cLS (Cods.cons cLS Cods.nil)) (fun p _ => p.1.length = p.2.1.length) (fun p _ v _ => v = .tuple #[S (prF p.1 p.2.1 p.1.length).val, J 0])
theorem keepsInn : Keeps1 Tryz.prog GT 67 cInn := by
  refine keepsW (T := Tlg) (A := ann67) hMix keepTlg hGT (calls_of (by kernel_rfl)) (callsW_of (by kernel_rfl)) fun args ⟨a, b, _⟩ w0 hrd hpre hg => ?_
  obtain ⟨x, _, rfl, ha, y, _, rfl, hb, rfl⟩ := hrd
  dsimp only at ha hb hpre
  replace ha : LsS w0 x a := ha
  replace hb : LsS w0 y b := hb
  have hmx := len_max ha
  unfold maxLen at hmx
  refine ⟨[.x (.v 0), .x (.v 1)], [], [], 3, env0 [x, y] w0, fun b => b, 0, rfl, rfl, fun X hX => mem_none hX rfl, fun X hP hS hw hX hR => ?_⟩
  subst hw; try dsimp only at hR
  rw [vc67 X]
  rw [ask_zero4]; intro b0 hb0
  rw [ask_zero4]; intro b1 hb1
  refine a_len hP tySI ha.1 ?_
  refine a_len hP tySI hb.1 ?_
  rw [ask_neqN, decide_eq_true hpre]
  refine a_if (fun h => by cases h) fun _ => ?_
  refine a_len hP tySI ha.1 ?_
  refine ⟨fun q w => ∃ i, q = [J i, S (prF a b i).val] ∧ i ≤ a.length ∧ Kn X w, fun q _ => match q with | i :: _ => a.length - intNat i | _ => 0, fun w hw => ⟨0, rfl, Nat.zero_le _, hw.kn⟩, ?_⟩
  rintro _ _ w ⟨i, he, hi, hk⟩
  simp only [List.cons.injEq, and_true] at he
  obtain ⟨rfl, rfl⟩ := he
  rw [ask_lssN]
  refine a_ifD (fun hlt => ?_) fun hge => ?_
  · have s0 := hk.stp0 hX
    refine ld_SN hP hk (ha.1.stp0 s0) rfl hlt (fun _ _ => List.not_mem_nil) ?_
    rw [ask_zero4]; intro b2 hb2
    rw [ask_aggS]
    refine a_mkS hP (a_mkS hP ?_)
    refine ld_SN hP hk (hb.1.stp0 s0) rfl (by omega) (slAt_off (hb.1.stp0 s0) (by rw [flat_len encS_len]; omega) (by simpa using hb2)) ?_
    refine call_I hP hS (T := Tlg) (f := 49) rfl (_, _) (methSMul _ _) ⟨getD_okSj ha.2 i, getD_okSj hb.2 i⟩ ?_
    dsimp only
    refine call_I hP hS (T := Tlg) (f := 29) rfl (_, _) (methSAdd _ _) ⟨val_lt _, val_lt _⟩ ?_
    dsimp only
    rw [rF_val, rF_val, ask_aggS, ask_succ (by omega)]
    intro w2 hw2
    exact ⟨⟨i + 1, rfl, hlt, hw2.kn⟩, by simp [intNat]; omega⟩
  · obtain rfl : i = a.length := by omega
    rw [ask_aggS]
    exact hR _ _ _ _ fun _ _ => rfl
/-! ### Mix -/
theorem row_kb {X : Ctx} {u w : World} {ow : List Nat} {bl : List KB} (hw : KnownV X u ow bl w) {b t : Nat} {cs : Array Value} (h : (⟨b, true, t, cs⟩ : KB) ∈ bl) : w.heap[b]? = some (.cells cs t (0, 0)) := by
  have := (hw.blk _ h).1
  simpa using this
def ann140 : Ann := ⟨[], [], 70, [], [4, 5, 6], none, [], []⟩
theorem vc140 (X : Ctx) (β : Nat → Nat) (x0 x1 x2 x3 : Value) : (run Tryz.prog ann140 140 [.x (.v 0), .x (.v 1), .x (.v 2), .x (.v 3)] [] [] 5).den X (env0 [x0, x1, x2, x3] X.w0) 5 β 0 (fun _ _ _ => False) = (
 Ask (rAgg 4 x0) fun x5 =>
 AskNew X.w0 fun _ =>
 Ask (rAgg 4 x1) fun x6 =>
 AskNew X.w0 fun _ =>
 Ask (rAgg 4 (.agg #[(U 0), (U 0), (U 0), (U 0)])) fun _ =>
 AskNew X.w0 fun b2 =>
 Ask (rLoad X X.w0 [] 29 x2) fun x8 =>
 Ask (rGen X.P (Op.makeInterface 29 (Operand.tmp 7)) 20 [(7, x8)]) fun x9 =>
 AskI X x9 "Mul" [x5] fun x10 =>
 Ask (rGen X.P (Op.makeInterface 29 (Operand.tmp 10)) 20 [(10, x10)]) fun x11 =>
 Ask (rLoad X X.w0 [] 29 x3) fun x12 =>
 Ask (rGen X.P (Op.makeInterface 29 (Operand.tmp 12)) 20 [(12, x12)]) fun x13 =>
 AskI X x13 "Mul" [x6] fun x14 =>
 AskI X x11 "Add" [x14] fun x15 =>
 Ask (rAgg 4 x15) fun x16 =>
 Ret X X.w0 [b2] [] x16) := by kernel_rfl
/-- A variable that holds a scalar. -/
def ScV (w : World) (b n : Nat) : Prop := n < W256 ∧ ∃ ty, w.heap[b]? = some (.cells (encS n).toArray ty (0, 0))
theorem ScV.inj {w : World} {b n m : Nat} (h : ScV w b n) (k : ScV w b m) : n = m := by
  obtain ⟨h1, t, h⟩ := h
  obtain ⟨k1, t', k⟩ := k
  rw [h] at k
  simp only [Option.some.injEq, Obj.cells.injEq] at k
  exact encS_inj h1 k1 (congrArg Array.toList k.1)
theorem ScV.stp {ex : List Nat} {u w : World} {b n : Nat} (h : ScV u b n) (hs : Stp ex u w) (hb : b ∉ ex) : ScV w b n := by
  obtain ⟨h1, t, h⟩ := h
  exact ⟨h1, t, by rw [hs.past b (Array.getElem?_eq_some_iff.1 h).1 hb]; exact h⟩
def cVS : Cod Nat := ⟨fun w v n => ∃ b, v = Pt b ∧ ScV w b n, fun w v n m ⟨b, e, h⟩ ⟨b', e', h'⟩ => by
  rw [e] at e'
  cases e'
  exact h.inj h'⟩
def cM1 : Contract := fnW (Cods.cons cSj (Cods.cons cSj (Cods.cons cVS (Cods.cons cVS Cods.nil)))) (fun _ _ => True) (fun p _ v _ => v = S (rF p.2.2.1 * rF p.1 + rF p.2.2.2.1 * rF p.2.1).val)
theorem ld_V {X : Ctx} {b n : Nat} {K : Value → Prop} (hP : X.P = Tryz.prog) (h : ScV X.w0 b n) (hK : K (S n)) : Ask (rLoad X X.w0 [] 29 (Pt b)) K := by
  obtain ⟨_, ty, h⟩ := h
  exact a_ldPA (cs := encS n) (kn0 X) (by rw [hP]; exact aggS) (by rw [hP]; exact szS) h List.not_mem_nil (fun j c hj => by rw [Nat.zero_add]; simpa using hj) hK
theorem keepsM1 : Keeps1 Tryz.prog GT 140 cM1 := by
  refine keepsW (T := Tlg) (A := ann140) hMix keepTlg hGT (calls_of (by kernel_rfl)) (callsW_of (by kernel_rfl)) fun args ⟨s, t, x, y, _⟩ w0 hrd hpre hg => ?_
  obtain ⟨_, _, rfl, ⟨rfl, hs⟩, _, _, rfl, ⟨rfl, ht⟩, _, _, rfl, ⟨bx, rfl, hx⟩, _, _, rfl, ⟨by', rfl, hy⟩, rfl⟩ := hrd
  dsimp only at hs ht hx hy
  refine ⟨[.x (.v 0), .x (.v 1), .x (.v 2), .x (.v 3)], [], [], 5, env0 [S s, S t, Pt bx, Pt by'] w0, fun b => b, 0, rfl, rfl, fun X hX => mem_none hX rfl, fun X hP hS hw hX hR => ?_⟩
  subst hw; try dsimp only at hR
  rw [vc140 X]
  rw [ask_aggS]; intro b0 hb0
  rw [ask_aggS]; intro b1 hb1
  rw [ask_zero4]; intro b2 hb2
  refine ld_V hP hx ?_
  refine a_mkS hP ?_
  refine call_I hP hS (T := Tlg) (f := 49) rfl (x, s) (methSMul _ _) ⟨hx.1, hs⟩ ?_
  refine a_mkS hP ?_
  refine ld_V hP hy ?_
  refine a_mkS hP ?_
  refine call_I hP hS (T := Tlg) (f := 49) rfl (y, t) (methSMul _ _) ⟨hy.1, ht⟩ ?_
  dsimp only
  refine call_I hP hS (T := Tlg) (f := 29) rfl (_, _) (methSAdd _ _) ⟨val_lt _, val_lt _⟩ ?_
  dsimp only
  rw [rF_val, rF_val, ask_aggS]
  exact hR _ _ _ _ fun _ _ => rfl
abbrev Fmx (bx b : Nat) : Value := .func (.func 140) #[] #[Pt bx, Pt b]
def cFmx : Cod (Nat × Nat) := ⟨fun w v p => ∃ bx b, v = Fmx bx b ∧ ScV w bx p.1 ∧ ScV w b p.2, fun w v ⟨n, m⟩ ⟨n', m'⟩ ⟨bx, b, e, h1, h2⟩ ⟨bx', b', e', h1', h2'⟩ => by
  rw [e] at e'
  cases e'
  exact Prod.ext (h1.inj h1') (h2.inj h2')⟩
def ann139 : Ann := ⟨[(5, ([20], []))], [], 70, [], [], some false, [], []⟩
theorem vc139 (X : Ctx) (β : Nat → Nat) (x0 x1 x2 : Value) : (run Tryz.prog ann139 139 [.x (.v 0), .x (.v 1), .x (.v 2)] [] [] 4).den X (env0 [x0, x1, x2] X.w0) 4 β 0 (fun _ _ _ => False) = (
 Ask (rLen X.P 28 x0) fun x4 =>
 Ask (rLen X.P 28 x1) fun x5 =>
 Ask (rBin X.P .neq 3 false false x4 x5) fun x6 =>
 (∃ t, x6 = .bool t) ∧ (x6 = .bool true →
 Ret X X.w0 [] [] (.tuple #[(.slice none 0 0), (J 2)])) ∧ (x6 = .bool false →
 Ask (rLen X.P 28 x0) fun x7 =>
 AskO X X.w0 [] [] false (Op.makeSlice 28 (Operand.tmp 16) (Operand.tmp 16)) 28 [(16, x7), (16, x7)] fun x8 w8 =>
 Ask (rLen X.P 28 x8) fun x9 =>
 ∃ (I0 : List Value → World → Prop) (μ0 : List Value → World → Nat), (∀ w, KnownV X w8 [] [] w → I0 [(J 0)] w) ∧ ∀ x10 w11, I0 [x10] w11 →
 Ask (rBin X.P .lss 3 false false x10 x9) fun x12 =>
 (∃ t, x12 = .bool t) ∧ (x12 = .bool true →
 Ask (rIad X.P 28 x0 x10) fun x13 =>
 Ask (rLoad X w11 [] 29 x13) fun x14 =>
 Ask (rIad X.P 28 x1 x10) fun x15 =>
 Ask (rLoad X w11 [] 29 x15) fun x16 =>
 AskV X w11 [] [] false x2 [x14, x16] fun x17 w17 =>
 Ask (rIad X.P 28 x8 x10) fun x18 =>
 AskO X w17 [] [] true (Op.store 29 (Operand.tmp 35) (Operand.tmp 34)) 0 [(35, x18), (34, x17)] fun _ w19 =>
 Ask (rBin X.P .add 3 false true x10 (J 1)) fun x20 =>
 Again X w19 [] [] fun w => I0 [x20] w ∧ μ0 [x20] w < μ0 [x10] w11) ∧ (x12 = .bool false →
 Ret X w11 [] [] (.tuple #[x8, (J 0)])))) := by kernel_rfl
def mixF (x y : Nat) (a b : List Nat) (i : Nat) : F := rF x * rF (a.getD i 0) + rF y * rF (b.getD i 0)
def cPrs : Contract := fnW (Cods.cons cLS (Cods.cons cLS (Cods.cons cFmx Cods.nil))) (fun p _ => p.1.length = p.2.1.length ∧ p.1.length ≤ 1024) (fun p w v w' => ∃ o, v = .tuple #[o, J 0] ∧ w'.ownsRow w.heap.size 29 4 o p.1.length ((mapN (mixF p.2.2.1.1 p.2.2.1.2 p.1 p.2.1) p.1.length).flatMap encF))
def Tprj : Table := T0.add 140 cM1
theorem keepTprj : AllKeep Tryz.prog GT Tprj := keepT0.add keepsM1
theorem keepsPrs : Keeps1 Tryz.prog GT 139 cPrs := by
  refine keepsW (T := Tprj) (A := ann139) hMix keepTprj hGT (calls_of (by kernel_rfl)) (callsW_of (by kernel_rfl)) fun args ⟨a, b, ⟨s, t⟩, _⟩ w0 hrd hpre hg => ?_
  obtain ⟨x, _, rfl, ha, y, _, rfl, hb, _, _, rfl, ⟨bx, by', rfl, hx, hy⟩, rfl⟩ := hrd
  obtain ⟨hab, hn⟩ := hpre
  dsimp only at ha hb hx hy hab hn
  replace ha : LsS w0 x a := ha
  replace hb : LsS w0 y b := hb
  refine ⟨[.x (.v 0), .x (.v 1), .x (.v 2)], [], [], 4, env0 [x, y, Fmx bx by'] w0, fun b => b, 0, rfl, rfl, fun X hX => mem_none hX rfl, fun X hP hS hw hX hR => ?_⟩
  subst hw; try dsimp only at hR
  rw [vc139 X]
  refine a_len hP tySI ha.1 ?_
  refine a_len hP tySI hb.1 ?_
  rw [ask_neqN, decide_eq_true hab]
  refine a_if (fun h => by cases h) fun _ => ?_
  refine a_len hP tySI ha.1 ?_
  obtain ⟨n, en⟩ : ∃ n, n = a.length := ⟨_, rfl⟩
  rw [← en] at hn ⊢
  refine a_make (n := n) hX hP tySI (by simp [argsFn]) (by simp [argsFn]) (by omega) (by unfold maxLen; omega) fun g u1 w1 h1 k1 s1 su1 o1 => ?_
  have mk : (madeCells (Value.agg #[U 0, U 0, U 0, U 0]).cells (n * 4)).toList = (List.replicate n (0 : F)).flatMap encF := made_enc (α := F) (enc := encF) (a := 0) (s := 4) (by kernel_rfl) rfl (by decide) n
  rw [mk, ← padF_zero (mixF s t a b)] at o1
  refine a_len hP tySI (own_slAt o1) ?_
  refine ⟨fun q w => ∃ i, q = [J i] ∧ i ≤ n ∧ Kn X w ∧ w.ownsRow u1.heap.size 29 4 (.slice (some ⟨g, 0, none⟩) n n) n ((padF (mixF s t a b) i n).flatMap encF), fun q _ => match q with | i :: _ => n - intNat i | _ => 0, fun w hw => ⟨0, rfl, Nat.zero_le _, hw.kn, own_stp0 o1 hw.stp⟩, ?_⟩
  rintro _ w ⟨i, he, hi, hk, ho⟩
  simp only [List.cons.injEq, and_true] at he
  subst he
  rw [ask_lssN]
  refine a_ifD (fun hlt => ?_) fun hge => ?_
  · have s0 := hk.stp0 hX
    refine ld_SN hP hk (ha.1.stp0 s0) rfl (by omega) (fun _ _ => List.not_mem_nil) ?_
    refine ld_SN hP hk (hb.1.stp0 s0) rfl (by omega) (fun _ _ => List.not_mem_nil) ?_
    refine call_V hX hS rfl (fun args w => by rw [hP]; exact enters_of (by kernel_rfl) args w) (T := Tprj) (f := 140) rfl (a.getD i 0, b.getD i 0, s, t, ()) (fun w hw => ⟨⟨_, _, rfl, ⟨rfl, getD_okSj ha.2 i⟩, _, _, rfl, ⟨rfl, getD_okSj hb.2 i⟩, _, _, rfl, ⟨_, rfl, hx.stp (s0.trans0 hw.stp) List.not_mem_nil⟩, _, _, rfl, ⟨_, rfl, hy.stp (s0.trans0 hw.stp) List.not_mem_nil⟩, rfl⟩, trivial⟩) fun v w2 w3 h2 k3 s3 su3 hp => ?_
    dsimp only at hp
    subst hp
    have ho3 := own_stp0 ho su3
    refine a_iadN hP tySI (own_slAt ho) hlt ?_
    refine a_store (vs := encF (mixF s t a b i)) hX hP szS rfl rfl rfl rfl (one_encF _) ho3 h1.sz0 (by omega) (by decide) (fun _ _ => List.not_mem_nil) (fun w4 hw4 g' hg' hm => by cases hm) fun _ w5 w6 h6 k6 s6 su6 o6 => ?_
    rw [lset_flat encF_len _ _ _ (by rw [padF_len]; exact hlt), padF_set] at o6
    rw [ask_succ (by omega)]
    intro w7 hw7
    exact ⟨⟨i + 1, rfl, hlt, hw7.kn, own_stp0 o6 hw7.stp⟩, by simp [intNat]; omega⟩
  · obtain rfl : i = n := by omega
    rw [padF_full] at ho
    refine hR _ _ _ _ fun w hw => ⟨_, rfl, ?_⟩
    show w.ownsRow _ _ _ _ a.length ((mapN _ a.length).flatMap encF)
    rw [← en]
    exact own_mono (own_stp0 ho hw.stp) h1.sz0
def ann126 : Ann := ⟨[], [], 70, [(139, false)], [4, 6], none, [], []⟩
def kb126_0 (b0 b1 : Nat) (x5 x6 : Value) : List KB := [⟨b0, true, 29, (aggArr x5)⟩, ⟨b1, true, 29, (aggArr x6)⟩]
theorem vc126 (X : Ctx) (β : Nat → Nat) (x0 x1 x2 x3 : Value) : (run Tryz.prog ann126 126 [.x (.v 0), .x (.v 1), .x (.v 2), .x (.v 3)] [] [] 5).den X (env0 [x0, x1, x2, x3] X.w0) 5 β 0 (fun _ _ _ => False) = (
 Ask (rAgg 4 x0) fun x5 =>
 AskNew X.w0 fun b0 =>
 Ask (rAgg 4 x2) fun x6 =>
 AskNew X.w0 fun b1 =>
 Ask (rGen X.P (Op.makeFunc (Fn.func 140) #[] #[Operand.tmp 4, Operand.tmp 6]) 177 [(4, (.pointer (some ⟨b0, 0, none⟩))), (6, (.pointer (some ⟨b1, 0, none⟩)))]) fun x7 =>
 AskW X X.w0 [] (kb126_0 b0 b1 x5 x6) false 139 [x1, x3, x7] fun x8 w8 =>
 Ask (rExt X.P x8 0) fun x9 =>
 Ask (rExt X.P x8 1) fun x10 =>
 Ret X w8 [] (kb126_0 b0 b1 x5 x6) (.tuple #[x9, x10])) := by kernel_rfl
def cMix : Contract := fnW (Cods.cons cSj (Cods.cons cLS (Cods.cons cSj (Cods.cons cLS Cods.nil)))) (fun p _ => p.2.1.length = p.2.2.2.1.length ∧ p.2.1.length ≤ 1024) (fun p w v w' => ∃ o, v = .tuple #[o, J 0] ∧ w'.ownsRow w.heap.size 29 4 o p.2.1.length ((mapN (mixF p.1 p.2.2.1 p.2.1 p.2.2.2.1) p.2.1.length).flatMap encF))
def Tmx : Table := T0.add 139 cPrs
theorem keepTmx : AllKeep Tryz.prog GT Tmx := keepT0.add keepsPrs
theorem keepsMix : Keeps1 Tryz.prog GT 126 cMix := by
  refine keepsW (T := Tmx) (A := ann126) hMix keepTmx hGT (calls_of (by kernel_rfl)) (callsW_of (by kernel_rfl)) fun args ⟨s, a, t, b, _⟩ w0 hrd hpre hg => ?_
  obtain ⟨_, _, rfl, ⟨rfl, hs⟩, x, _, rfl, ha, _, _, rfl, ⟨rfl, ht⟩, y, _, rfl, hb, rfl⟩ := hrd
  dsimp only at hs ht ha hb hpre
  replace ha : LsS w0 x a := ha
  replace hb : LsS w0 y b := hb
  refine ⟨[.x (.v 0), .x (.v 1), .x (.v 2), .x (.v 3)], [], [], 5, env0 [S s, x, S t, y] w0, fun b => b, 0, rfl, rfl, fun X hX => mem_none hX rfl, fun X hP hS hw hX hR => ?_⟩
  subst hw; try dsimp only at hR
  rw [vc126 X]
  rw [ask_aggS]; intro b0 hb0
  rw [ask_aggS]; intro b1 hb1
  rw [ask_makeFn (ps := #[Pt b0, Pt b1]) (by simp [argsFn])]
  refine call_W hX hS (T := Tmx) (f := 139) rfl (a, b, (s, t), ()) (fun w hw => ⟨⟨_, _, rfl, ha.stp0 hw.stp, _, _, rfl, hb.stp0 hw.stp, _, _, rfl, ⟨b0, b1, rfl, ⟨hs, 29, row_kb hw (cs := aggArr (S s)) (by simp [kb126_0])⟩, ⟨ht, 29, row_kb hw (cs := aggArr (S t)) (by simp [kb126_0])⟩⟩, rfl⟩, hpre⟩) fun v w w' h k s su hv => ?_
  obtain ⟨o, rfl, ho⟩ := hv
  dsimp only at ho
  rw [ask_ext0, ask_ext1]
  exact hR _ _ _ _ fun w2 hw2 => ⟨o, rfl, own_mono (own_stp0 ho hw2.stp) h.sz0⟩
def ann93 : Ann := ⟨[], [28], 70, [(126, false)], [3], none, [], []⟩
def kb93_0 (b0 b1 : Nat) (x4 x5 x6 : Value) : List KB := [⟨b0, true, 164, #[x4, x5]⟩, ⟨b1, true, 29, (aggArr x6)⟩]
theorem vc93 (X : Ctx) (β : Nat → Nat) (x0 x1 : Value) : (run Tryz.prog ann93 93 [.x (.v 0), .x (.v 1)] [] [] 3).den X (env0 [x0, x1] X.w0) 3 β 0 (fun _ _ _ => False) = (
 Ask (rAgg 2 x0) fun x3 =>
 Ask (rSel (aggArr x3) 0 1 false) fun x4 =>
 Ask (rSel (aggArr x3) 1 1 false) fun x5 =>
 AskNew X.w0 fun b0 =>
 Ask (rAgg 4 x1) fun x6 =>
 AskNew X.w0 fun b1 =>
 AskF X 28 [(U 1)] fun x7 =>
 AskW X X.w0 [] (kb93_0 b0 b1 x4 x5 x6) false 126 [x7, x4, x6, x5] fun x8 w8 =>
 Ask (rExt X.P x8 0) fun x9 =>
 Ask (rExt X.P x8 1) fun _ =>
 Ret X w8 [] [] x9) := by kernel_rfl
/-- Two lists in one. -/
def cL2 : Cod (List Nat × List Nat) := ⟨fun w v p => ∃ c d, v = .agg #[c, d] ∧ cLS.rd w c p.1 ∧ cLS.rd w d p.2, fun w v ⟨a, b⟩ ⟨a', b'⟩ ⟨c, d, e, h1, h2⟩ ⟨c', d', e', h1', h2'⟩ => by
  rw [e] at e'
  cases e'
  exact Prod.ext (cLS.inj _ _ _ _ h1 h1') (cLS.inj _ _ _ _ h2 h2')⟩
def cAtl : Contract := fnW (Cods.cons cL2 (Cods.cons cSj Cods.nil)) (fun p _ => p.1.1.length = p.1.2.length ∧ p.1.1.length ≤ 1024) (fun p w v w' => w'.ownsRow w.heap.size 29 4 v p.1.1.length ((mapN (mixF 1 p.2.1 p.1.1 p.1.2) p.1.1.length).flatMap encF))
def Tat : Table := (T0.add 126 cMix).add 28 cRInt
theorem keepTat : AllKeep Tryz.prog GT Tat := (keepT0.add keepsMix).add keepsSInt
theorem keepsAtl : Keeps1 Tryz.prog GT 93 cAtl := by
  refine keepsW (T := Tat) (A := ann93) hMix keepTat hGT (calls_of (by kernel_rfl)) (callsW_of (by kernel_rfl)) fun args ⟨⟨a, b⟩, t, _⟩ w0 hrd hpre hg => ?_
  obtain ⟨_, _, rfl, ⟨x, y, rfl, ha, hb⟩, _, _, rfl, ⟨rfl, ht⟩, rfl⟩ := hrd
  dsimp only at ht ha hb hpre
  replace ha : LsS w0 x a := ha
  replace hb : LsS w0 y b := hb
  refine ⟨[.x (.v 0), .x (.v 1)], [], [], 3, env0 [.agg #[x, y], S t] w0, fun b => b, 0, rfl, rfl, fun X hX => mem_none hX rfl, fun X hP hS hw hX hR => ?_⟩
  subst hw; try dsimp only at hR
  rw [vc93 X]
  refine a_agg (cs := [x, y]) rfl (by simp [slAt_one ha.1, slAt_one hb.1]) ?_
  refine a_sel1 (v := x) rfl ?_
  refine a_sel1 (v := y) rfl ?_
  intro b0 hb0
  rw [ask_aggS]; intro b1 hb1
  refine call_PE hS (T := Tat) (f := 28) rfl 1 (by decide) ?_
  refine call_W hX hS (T := Tat) (f := 126) rfl (1, a, t, b, ()) (fun w hw => ⟨⟨_, _, rfl, ⟨rfl, show 1 < W256 by decide⟩, _, _, rfl, ha.stp0 hw.stp, _, _, rfl, ⟨rfl, ht⟩, _, _, rfl, hb.stp0 hw.stp, rfl⟩, hpre⟩) fun v w w' h k s su hv => ?_
  obtain ⟨o, rfl, ho⟩ := hv
  dsimp only at ho
  rw [ask_ext0, ask_ext1]
  exact hR _ _ _ _ fun w2 hw2 => own_mono (own_stp0 ho hw2.stp) h.sz0
#print axioms keepsAtl
end Go.Vc

/-
  What the prover looks at first; its tape; how it commits.
-/
namespace Go.Vc
open Go Go.Proofs Go.RowKit
/-- A prover's tape as it comes: Alpha, Rho, Tau1, Tau2, SL, SR. -/
abbrev TpN : Type := Nat × Nat × Nat × Nat × List Nat × List Nat
def tpN (t : TpN) (l r : Value) : List Value := encS t.1 ++ encS t.2.1 ++ encS t.2.2.1 ++ encS t.2.2.2.1 ++ [l, r]
theorem tpN_len (t : TpN) (l r : Value) : (tpN t l r).length = 18 := rfl
theorem tpN_one {t : TpN} {l r : Value} (hl : l.oneCell' = true) (hr : r.oneCell' = true) : (tpN t l r).all (·.oneCell') = true := by
  simp only [tpN, List.all_append, one_encS, List.all_cons, List.all_nil, hl, hr, Bool.and_true]
def okTp (t : TpN) : Prop := t.1 < W256 ∧ t.2.1 < W256 ∧ t.2.2.1 < W256 ∧ t.2.2.2.1 < W256
def cTpN : Cod TpN := ⟨fun w v p => okTp p ∧ ∃ l r, v = .agg (tpN p l r).toArray ∧ cLS.rd w l p.2.2.2.2.1 ∧ cLS.rd w r p.2.2.2.2.2, fun w v ⟨a, b, c, d, G, H⟩ ⟨a', b', c', d', G', H'⟩ ⟨⟨o1, o2, o3, o4⟩, g, h, e, hg, hh⟩ ⟨⟨o1', o2', o3', o4'⟩, g', h', e', hg', hh'⟩ => by
  dsimp only at hg hh hg' hh' o1 o2 o3 o4 o1' o2' o3' o4'
  rw [e] at e'
  simp only [Value.agg.injEq] at e'
  have e' := congrArg Array.toList e'
  simp only [tpN, List.append_assoc] at e'
  obtain ⟨e1, e'⟩ := List.append_inj e' rfl
  obtain ⟨e2, e'⟩ := List.append_inj e' rfl
  obtain ⟨e3, e'⟩ := List.append_inj e' rfl
  obtain ⟨e4, e'⟩ := List.append_inj e' rfl
  simp only [List.cons.injEq, and_true] at e'
  obtain ⟨rfl, rfl⟩ := e'
  rw [encS_inj o1 o1' e1, encS_inj o2 o2' e2, encS_inj o3 o3' e3, encS_inj o4 o4' e4, cLS.inj _ _ _ _ hg hg', cLS.inj _ _ _ _ hh hh']⟩
/-- What the prover is asked at first: set, bits, values, openings, tape. -/
structure Pq where
  p : SetN
  m : Nat
  n : Nat
  vs : List (Nat × Nat)
  t : TpN
namespace Pq
variable (d : Pq)
def N : Nat := d.m * d.n
def bit (i : Nat) : F := bitF d.vs d.m i
def com (j : Nat) : F := rF (vAt d.vs j) * rF d.p.1 + rF (bAt d.vs j) * rF d.p.2.1
def A : F := rF d.t.1 * rF d.p.2.1 + sumF' (fun i => d.bit i * rF (d.p.2.2.2.1.getD i 0)) d.N + sumF' (fun i => (d.bit i - 1) * rF (d.p.2.2.2.2.getD i 0)) d.N
def Sg : F := rF d.t.2.1 * rF d.p.2.1 + prF d.t.2.2.2.2.1 d.p.2.2.2.1 d.N + prF d.t.2.2.2.2.2 d.p.2.2.2.2 d.N
end Pq
structure Pq.Ok (d : Pq) : Prop where
  m0 : 0 < d.m
  m1 : d.m ≤ 64
  n0 : 0 < d.n
  n1 : d.n ≤ 16
  ok : okPar d.m d.n = true
  N : d.N ≤ 60
  vs : d.vs.length = d.n
  G : d.N ≤ d.p.2.2.2.1.length
  H : d.N ≤ d.p.2.2.2.2.length
  sl : d.t.2.2.2.2.1.length = d.N
  sr : d.t.2.2.2.2.2.length = d.N
  bad : badV d.m d.vs = false
def cPq : Cods Pq := ⟨fun w l d => (Cods.cons cSetN (Cods.cons cPn (Cods.cons cLO (Cods.cons cTpN Cods.nil)))).rd w l (d.p, (d.m, d.n), d.vs, d.t, ()), fun w l a b h k => by
  have := Cods.inj _ _ _ _ _ h k
  simp only [Prod.mk.injEq, and_true] at this
  obtain ⟨h1, ⟨h2, h3⟩, h4, h5⟩ := this
  obtain ⟨⟩ := a; obtain ⟨⟩ := b
  simp only at h1 h2 h3 h4 h5
  subst h1 h2 h3 h4 h5
  rfl⟩
def ann87 : Ann := ⟨[(7, ([54], []))], [42, 23, 86], 70, [], [4, 5, 7, 11], none, [], []⟩
def kb87_0 (b0 b1 b2 : Nat) (x6 x7 x8 : Value) : List KB := [⟨b0, true, 42, (aggArr x6)⟩, ⟨b1, true, 45, (aggArr x7)⟩, ⟨b2, true, 36, (aggArr x8)⟩]
theorem vc87 (X : Ctx) (β : Nat → Nat) (x0 x1 x2 x3 x4 : Value) : (run Tryz.prog ann87 87 [.x (.v 0), .l [.v 1, .v 2], .x (.v 3), .x (.v 4)] [] [] 6).den X (env0 [x0, x1, x2, x3, x4] X.w0) 6 β 0 (fun _ _ _ => False) = (
 Ask (rAgg 14 x0) fun x6 =>
 AskNew X.w0 fun b0 =>
 Ask (rAgg 2 (.agg #[x1, x2])) fun x7 =>
 AskNew X.w0 fun b1 =>
 Ask (rAgg 18 x4) fun x8 =>
 AskNew X.w0 fun b2 =>
 AskF X 42 [x7] fun x9 =>
 Ask (rUn X.P .not x9) fun x10 =>
 (∃ t, x10 = .bool t) ∧ (x10 = .bool true →
 Ret X X.w0 [] [] (J 130)) ∧ (x10 = .bool false →
 AskF X 23 [x7] fun x11 =>
 Ask (rSel (aggArr x6) 12 1 false) fun x12 =>
 Ask (rLen X.P 40 x12) fun x13 =>
 Ask (rBin X.P .lss 3 false false x13 x11) fun x14 =>
 AskG [(x14, false)] (rSel (aggArr x6) 13 1 false) fun x15 =>
 AskG [(x14, false)] (rLen X.P 40 x15) fun x16 =>
 AskG [(x14, false)] (rBin X.P .lss 3 false false x16 x11) fun x17 =>
 Ask (rPick x14 (.bool true) x17) fun x18 =>
 AskG [(x18, false)] (rLen X.P 47 x3) fun x19 =>
 AskG [(x18, false)] (rSel (aggArr x7) 1 1 false) fun x20 =>
 AskG [(x18, false)] (rBin X.P .neq 3 false false x19 x20) fun x21 =>
 Ask (rPick x18 (.bool true) x21) fun x22 =>
 AskG [(x22, false)] (rSel (aggArr x8) 16 1 false) fun x23 =>
 AskG [(x22, false)] (rLen X.P 28 x23) fun x24 =>
 AskG [(x22, false)] (rBin X.P .neq 3 false false x24 x11) fun x25 =>
 Ask (rPick x22 (.bool true) x25) fun x26 =>
 AskG [(x26, false)] (rSel (aggArr x8) 17 1 false) fun x27 =>
 AskG [(x26, false)] (rLen X.P 28 x27) fun x28 =>
 AskG [(x26, false)] (rBin X.P .neq 3 false false x28 x11) fun x29 =>
 Ask (rPick x26 (.bool true) x29) fun x30 =>
 (∃ t, x30 = .bool t) ∧ (x30 = .bool true →
 Ret X X.w0 [] [] (J 2)) ∧ (x30 = .bool false →
 Ask (rLen X.P 47 x3) fun x31 =>
 ∃ (I0 : List Value → World → Prop) (μ0 : List Value → World → Nat), (∀ w, KnownV X X.w0 [] (kb87_0 b0 b1 b2 x6 x7 x8) w → I0 [(J 0)] w) ∧ ∀ x32 w33, I0 [x32] w33 →
 Ask (rBin X.P .lss 3 false false x32 x31) fun x34 =>
 (∃ t, x34 = .bool t) ∧ (x34 = .bool true →
 Ask (rIad X.P 47 x3 x32) fun x35 =>
 Ask (rLoad X w33 [] 116 x35) fun x36 =>
 Ask (rAgg 5 (.agg #[(U 0), (U 0), (U 0), (U 0), (U 0)])) fun _ =>
 AskNew w33 fun b3 =>
 Ask (rAgg 5 x36) fun x38 =>
 AskF X 86 [x7] fun x39 =>
 Ask (rExt X.P x39 0) fun x40 =>
 Ask (rExt X.P x39 1) fun x41 =>
 AskG [(x41, true)] (rSel (aggArr x38) 0 1 false) fun x42 =>
 AskG [(x41, true)] (rBin X.P .geq 22 false false x42 x40) fun x43 =>
 Ask (rPick x41 x43 (.bool false)) fun x44 =>
 (∃ t, x44 = .bool t) ∧ (x44 = .bool true →
 Ret X w33 [b3] [] (J 131)) ∧ (x44 = .bool false →
 Ask (rBin X.P .add 3 false true x32 (J 1)) fun x45 =>
 Again X w33 [b3] [] fun w => I0 [x45] w ∧ μ0 [x45] w < μ0 [x32] w33)) ∧ (x34 = .bool false →
 Ret X w33 [] [] (J 0))))) := by kernel_rfl
def cFtq : Contract := fnW cPq (fun d _ => d.Ok) (fun _ _ v _ => v = J 0)
def Tfq : Table := ((T0.add 42 cAllowed).add 23 cSize).add 86 cTop
theorem keepTfq : AllKeep Tryz.prog GT Tfq := ((keepT0.add keepsAllowed).add keepsSize).add keepsTop
theorem keepsFtq : Keeps1 Tryz.prog GT 87 cFtq := by
  refine keepsW (T := Tfq) (A := ann87) hMix keepTfq hGT (calls_of (by kernel_rfl)) (callsW_of (by kernel_rfl)) fun args d w0 hrd ok _ => ?_
  obtain ⟨_, _, rfl, ⟨okp, g, h, rfl, hg, hh⟩, _, _, rfl, rfl, v, _, rfl, hv, _, _, rfl, ⟨okt, sl, sr, rfl, hsl, hsr⟩, rfl⟩ := hrd
  dsimp only at okp hg hh hv okt hsl hsr
  replace hg : LsS w0 g d.p.2.2.2.1 := hg
  replace hh : LsS w0 h d.p.2.2.2.2 := hh
  replace hv : LsO w0 v d.vs := hv
  replace hsl : LsS w0 sl d.t.2.2.2.2.1 := hsl
  replace hsr : LsS w0 sr d.t.2.2.2.2.2 := hsr
  refine ⟨[.x (.v 0), .l [.v 1, .v 2], .x (.v 3), .x (.v 4)], [], [], 6, env0 [.agg (setL d.p g h).toArray, J d.m, J d.n, v, .agg (tpN d.t sl sr).toArray] w0, fun b => b, 0, rfl, rfl, fun X hX => mem_none hX rfl, fun X hP hS hw hX hR => ?_⟩
  subst hw; try dsimp only at hR
  rw [vc87 X]
  have hN := ok.N
  refine a_agg (setL_len _ _ _) (setL_one (slAt_one hg.1) (slAt_one hh.1)) ?_
  intro b0 hb0
  refine a_agg (cs := [J d.m, J d.n]) rfl rfl ?_
  intro b1 hb1
  refine a_agg (tpN_len _ _ _) (tpN_one (slAt_one hsl.1) (slAt_one hsr.1)) ?_
  intro b2 hb2
  refine call_PE hS (T := Tfq) (f := 42) rfl ((d.m : Int), (d.n : Int)) trivial ?_
  dsimp only
  rw [ok.ok, ask_not]
  refine a_if (fun h => by cases h) fun _ => ?_
  refine call_PE hS (T := Tfq) (f := 23) rfl ((d.m : Int), (d.n : Int)) trivial ?_
  dsimp only
  rw [sizeI_nat (show d.m * d.n < 2 ^ 63 by have : d.m * d.n = d.N := rfl; omega), show d.m * d.n = d.N from rfl]
  have lG := ok.G
  have lH := ok.H
  refine a_sel1 (v := g) rfl (a_len hP tyL hg.1 ?_)
  rw [ask_lssN, decide_eq_false (by omega)]
  refine a_G_on condsV1 (a_sel1 (v := h) rfl ?_)
  refine a_G_on condsV1 (a_len hP tyL hh.1 ?_)
  refine a_G_on condsV1 ?_
  rw [ask_lssN, decide_eq_false (by omega), ask_pickF]
  refine a_G_on condsV1 (a_len hP tyOP hv.1 ?_)
  refine a_G_on condsV1 (a_sel1 (v := J d.n) rfl ?_)
  refine a_G_on condsV1 ?_
  rw [ask_neqN, decide_eq_true ok.vs, ask_pickF]
  refine a_G_on condsV1 (a_sel1 (v := sl) rfl ?_)
  refine a_G_on condsV1 (a_len hP tySI hsl.1 ?_)
  refine a_G_on condsV1 ?_
  rw [ask_neqN, decide_eq_true ok.sl]
  show Ask (rPick (.bool false) (.bool true) (.bool false)) _
  rw [ask_pickF]
  refine a_G_on condsV1 (a_sel1 (v := sr) rfl ?_)
  refine a_G_on condsV1 (a_len hP tySI hsr.1 ?_)
  refine a_G_on condsV1 ?_
  rw [ask_neqN, decide_eq_true ok.sr]
  show Ask (rPick (.bool false) (.bool true) (.bool false)) _
  rw [ask_pickF]
  refine a_if (fun h => by cases h) fun _ => ?_
  refine a_len hP tyOP hv.1 ?_
  obtain ⟨top, bd, htop, hcond⟩ : ∃ (top : Nat) (bd : Bool), (if 64 ≤ d.m then Value.tuple #[U 0, .bool false] else .tuple #[U (2 ^ d.m), .bool true]) = .tuple #[U top, .bool bd] ∧ ∀ x : Nat, (bd && decide (top ≤ x)) = (decide ((d.m : Int) < 64) && decide (2 ^ (d.m : Int).toNat ≤ x)) := by
    by_cases h : 64 ≤ d.m
    · exact ⟨0, false, if_pos h, fun x => by rw [decide_eq_false (show ¬ (d.m : Int) < 64 by omega)]; rfl⟩
    · exact ⟨2 ^ d.m, true, if_neg h, fun x => by rw [decide_eq_true (show (d.m : Int) < 64 by omega), Int.toNat_natCast]⟩
  have lv := ok.vs
  have ln := ok.n1
  refine ⟨fun a w => ∃ i, a = [J i] ∧ i ≤ d.vs.length ∧ Kn X w, fun a _ => match a with | i :: _ => d.vs.length - intNat i | _ => 0, fun w hw => ⟨0, rfl, Nat.zero_le _, hw.kn⟩, ?_⟩
  rintro _ w ⟨i, he, hi, hk⟩
  simp only [List.cons.injEq, and_true] at he
  obtain rfl := he
  rw [ask_lssN]
  refine a_ifD (fun hlt => ?_) fun hge => ?_
  · refine ld_OP hP hk (hv.1.stp0 (hk.stp0 hX)) rfl hlt (fun _ _ => List.not_mem_nil) ?_
    refine a_agg (cs := encO (0, 0)) rfl rfl ?_
    intro b3 hb3
    refine a_agg (encO_len _) (one_encO _) ?_
    refine call_PE hS (T := Tfq) (f := 86) rfl (d.m, (d.n : Int)) ⟨ok.m0, ok.m1⟩ ?_
    dsimp only
    rw [htop, ask_ext0, ask_ext1]
    have hbad : (bd && decide (top ≤ vAt d.vs i)) = false := by
      rw [hcond]
      cases hq : (decide ((d.m : Int) < 64) && decide (2 ^ (d.m : Int).toNat ≤ vAt d.vs i)) with
      | false => rfl
      | true => have := badV_some hlt hq; rw [ok.bad] at this; cases this
    have nx : ∀ w2, KnownV X w [b3] [] w2 → (∃ j, [J (i + 1)] = [J j] ∧ j ≤ d.vs.length ∧ Kn X w2) ∧ d.vs.length - intNat (J (i + 1)) < d.vs.length - intNat (J i) := fun w2 hw2 => ⟨⟨i + 1, rfl, hlt, hw2.kn⟩, by simp [intNat]; omega⟩
    cases bd with
    | false =>
      refine a_G_off (condsV1_not (by decide)) fun _ => ?_
      refine a_G_off (condsV1_not (by decide)) fun _ => ?_
      rw [ask_pickF]
      refine a_if (fun h => by cases h) fun _ => ?_
      rw [ask_succ (by omega)]
      intro w2 hw2
      exact nx w2 hw2
    | true =>
      refine a_G_on condsV1 (a_sel1 (v := U (vAt d.vs i)) rfl ?_)
      refine a_G_on condsV1 ?_
      have e : decide (top ≤ vAt d.vs i) = false := by simpa using hbad
      unfold U
      rw [ask_geq, decide_eq_decide.2 Int.ofNat_le, e, ask_pickT]
      refine a_if (fun h => by cases h) fun _ => ?_
      rw [ask_succ (by omega)]
      intro w2 hw2
      exact nx w2 hw2
  · exact hR _ _ _ _ fun _ _ => rfl
/-! ### the tape in new memory -/
def ann88 : Ann := ⟨[], [], 70, [], [1, 2], none, [], []⟩
def kb88_0 (b0 b1 : Nat) (x2 x3 : Value) : List KB := [⟨b0, true, 36, (aggArr x2)⟩, ⟨b1, true, 36, (aggArr x3)⟩]
def kb88_1 (b0 b1 : Nat) (x6 x3 : Value) : List KB := [⟨b0, true, 36, (aggArr x6)⟩, ⟨b1, true, 36, (aggArr x3)⟩]
theorem vc88 (X : Ctx) (β : Nat → Nat) (x0 : Value) : (run Tryz.prog ann88 88 [.x (.v 0)] [] [] 2).den X (env0 [x0] X.w0) 2 β 0 (fun _ _ _ => False) = (
 Ask (rAgg 18 x0) fun x2 =>
 AskNew X.w0 fun b0 =>
 Ask (rAgg 18 (.agg #[(U 0), (U 0), (U 0), (U 0), (U 0), (U 0), (U 0), (U 0), (U 0), (U 0), (U 0), (U 0), (U 0), (U 0), (U 0), (U 0), (.slice none 0 0), (.slice none 0 0)])) fun x3 =>
 AskNew X.w0 fun b1 =>
 Ask (rSel (aggArr x2) 16 1 false) fun x4 =>
 AskO X X.w0 [] (kb88_0 b0 b1 x2 x3) true (appOp (.const (.slice none 0 0)) (.tmp 4) 28) 28 [(4, x4)] fun x5 w5 =>
 Ask (rUpd (aggArr x2) 16 1 x5) fun x6 =>
 Ask (rSel (aggArr x6) 17 1 false) fun x7 =>
 AskO X w5 [b0] (kb88_1 b0 b1 x6 x3) true (appOp (.const (.slice none 0 0)) (.tmp 8) 28) 28 [(8, x7)] fun x8 w8 =>
 Ask (rUpd (aggArr x6) 17 1 x8) fun x9 =>
 Ask (rAgg 18 x9) fun x10 =>
 Ret X w8 [b1, b0] [] x10) := by kernel_rfl
def cLst : Contract := fnW (Cods.cons cTpN Cods.nil) (fun p _ => p.1.2.2.2.2.1.length ≤ 1000 ∧ p.1.2.2.2.2.2.length ≤ 1000 ∧ 0 < p.1.2.2.2.2.2.length) (fun p w v w' => ∃ l r, v = .agg (tpN p.1 l r).toArray ∧ w'.ownsRow w.heap.size 29 4 l p.1.2.2.2.2.1.length (p.1.2.2.2.2.1.flatMap encS) ∧ w'.ownsRow w.heap.size 29 4 r p.1.2.2.2.2.2.length (p.1.2.2.2.2.2.flatMap encS))
theorem flat_oneJ {α : Type} {enc : α → List Value} (h : ∀ x, (enc x).all (·.oneCell') = true) (l : List α) : ∀ c ∈ l.flatMap enc, c.oneCell' = true := fun c hc => by
  obtain ⟨x, _, hx⟩ := List.mem_flatMap.1 hc
  exact List.all_eq_true.1 (h x) c hx
theorem keepsLst : Keeps1 Tryz.prog GT 88 cLst := by
  refine keepsW (T := T0) (A := ann88) hMix keepT0 hGT (calls_of (by kernel_rfl)) (callsW_of (by kernel_rfl)) fun args ⟨t, _⟩ w0 hrd hpre hg => ?_
  obtain ⟨_, _, rfl, ⟨okt, sl, sr, rfl, hsl, hsr⟩, rfl⟩ := hrd
  dsimp only at okt hsl hsr hpre
  obtain ⟨n1, n2, n3⟩ := hpre
  replace hsl : LsS w0 sl t.2.2.2.2.1 := hsl
  replace hsr : LsS w0 sr t.2.2.2.2.2 := hsr
  refine ⟨[.x (.v 0)], [], [], 2, env0 [.agg (tpN t sl sr).toArray] w0, fun b => b, 0, rfl, rfl, fun X hX => mem_none hX rfl, fun X hP hS hw hX hR => ?_⟩
  subst hw; try dsimp only at hR
  rw [vc88 X]
  refine a_agg (tpN_len _ _ _) (tpN_one (slAt_one hsl.1) (slAt_one hsr.1)) ?_
  intro b0 hb0
  refine a_agg (cs := tpN (0, 0, 0, 0, [], []) (.slice none 0 0) (.slice none 0 0)) rfl rfl ?_
  intro b1 hb1
  refine a_sel1 (v := sl) rfl ?_
  refine a_append hX hP tySI (v := .slice none 0 0) (x := sl) rfl rfl rfl (by decide) (Nat.le_refl _) (Nat.le_refl _) (World.ownsRow_nil _ _ _ _) (fun w hw => hsl.1.stp0 hw.stp) (flat_len encS_len _) (flat_oneJ one_encS _) (fun _ h => by cases h) (fun _ _ _ h => by cases h)
    (by unfold maxLen; omega) (by omega) fun l w1 w2 h1 k2 s2 su2 o2 bl2 => ?_
  rw [List.nil_append, Nat.zero_add] at o2
  have su2 : Stp [] X.w0 w2 := su2
  have l0 : b0 < w1.heap.size := h1.low (by simp [kb88_0])
  have hl0 : ∀ q, l.ownBlock = some q → q ∉ [b0] := fun q hq hm => by
    rw [hq] at bl2
    simp only [List.mem_singleton] at hm
    rcases bl2 with h | h
    · cases h
    · simp only [Option.some.injEq] at h; omega
  obtain ⟨la, lc, rfl, _⟩ := slAt_form (own_slAt o2)
  refine a_upd3 (encS t.1 ++ encS t.2.1 ++ encS t.2.2.1 ++ encS t.2.2.2.1) [sl] [sr] [_] rfl rfl rfl rfl rfl rfl ?_
  rw [show encS t.1 ++ encS t.2.1 ++ encS t.2.2.1 ++ encS t.2.2.2.1 ++ [Value.slice la t.2.2.2.2.1.length lc] ++ [sr] = tpN t (.slice la t.2.2.2.2.1.length lc) sr from rfl]
  refine a_sel1 (v := sr) rfl ?_
  have offR : ∀ b, sr.ownBlock = some b → b ∉ [b0] := slAt_off hsr.1 (by rw [flat_len encS_len]; omega) (by simpa using hb0)
  refine a_append hX hP tySI (v := .slice none 0 0) (x := sr) rfl rfl rfl (by decide) (Nat.le_refl _) su2.size (World.ownsRow_nil _ _ _ _) (fun w hw => (hsr.1.stp0 su2).stp hw.stp offR) (flat_len encS_len _) (flat_oneJ one_encS _) (fun _ h => by cases h) (fun _ _ _ h => by cases h)
    (by unfold maxLen; omega) (by omega) fun r w3 w4 h3 k4 s4 su4 o4 bl4 => ?_
  rw [List.nil_append, Nat.zero_add] at o4
  have su4 : Stp [b0] w2 w4 := su4
  have o2' := own_stp o2 su4 hl0
  have hb : b0 < w3.heap.size ∧ b1 < w3.heap.size := ⟨h3.low (by simp [kb88_1]), h3.low (by simp [kb88_1])⟩
  have hr0 : ∀ q, r.ownBlock = some q → q ∉ [b1, b0] := fun q hq hm => by
    rw [hq] at bl4
    simp only [List.mem_cons, List.not_mem_nil, or_false] at hm
    rcases bl4 with h | h
    · cases h
    · simp only [Option.some.injEq] at h; omega
  obtain ⟨ra, rc, rfl, _⟩ := slAt_form (own_slAt o4)
  refine a_upd3 (encS t.1 ++ encS t.2.1 ++ encS t.2.2.1 ++ encS t.2.2.2.1 ++ [.slice la t.2.2.2.2.1.length lc]) [sr] [] [_] rfl rfl rfl rfl rfl rfl ?_
  rw [show encS t.1 ++ encS t.2.1 ++ encS t.2.2.1 ++ encS t.2.2.2.1 ++ [Value.slice la t.2.2.2.2.1.length lc] ++ [.slice ra t.2.2.2.2.2.length rc] ++ [] = tpN t (.slice la t.2.2.2.2.1.length lc) (.slice ra t.2.2.2.2.2.length rc) from rfl]
  refine a_agg (tpN_len _ _ _) (tpN_one rfl rfl) ?_
  have hl1 : ∀ q, (Value.slice la t.2.2.2.2.1.length lc).ownBlock = some q → q ∉ [b1, b0] := fun q hq hm => by
    have h5 := hl0 q hq
    have l1 : b1 < w1.heap.size := h1.low (by simp [kb88_0])
    rw [hq] at bl2
    simp only [List.mem_cons, List.not_mem_nil, or_false] at hm h5
    rcases bl2 with h | h
    · cases h
    · simp only [Option.some.injEq] at h; omega
  exact hR _ _ _ _ fun wf hwf => ⟨_, _, rfl, own_stp o2' hwf.stp hl1, own_stp o4 hwf.stp hr0⟩
/-! ### how it commits -/
def ann89 : Ann := ⟨[], [], 70, [(90, false)], [3, 4, 5], none, [], []⟩
def kb89_0 (b0 b1 b2 : Nat) (x4 x5 x6 : Value) : List KB := [⟨b0, true, 29, (aggArr x4)⟩, ⟨b1, true, 29, (aggArr x5)⟩, ⟨b2, true, 31, (aggArr x6)⟩]
theorem vc89 (X : Ctx) (β : Nat → Nat) (x0 x1 x2 : Value) : (run Tryz.prog ann89 89 [.x (.v 0), .x (.v 1), .x (.v 2)] [] [] 4).den X (env0 [x0, x1, x2] X.w0) 4 β 0 (fun _ _ _ => False) = (
 Ask (rAgg 4 x0) fun x4 =>
 AskNew X.w0 fun b0 =>
 Ask (rAgg 4 x1) fun x5 =>
 AskNew X.w0 fun b1 =>
 Ask (rAgg 4 (.agg #[(U 0), (U 0), (U 0), (U 0)])) fun x6 =>
 AskNew X.w0 fun b2 =>
 Ask (rLoad X X.w0 [] 42 x2) fun x7 =>
 AskW X X.w0 [] (kb89_0 b0 b1 b2 x4 x5 x6) false 90 [x7, x4, x5] fun x8 w8 =>
 Ask (rAgg 4 x8) fun x9 =>
 Ret X w8 [b2] [] x9) := by kernel_rfl
/-- A variable that holds a set. -/
def SetV' (w : World) (b : Nat) (p : SetN) : Prop := okSet p ∧ ∃ g h ty, w.heap[b]? = some (.cells (setL p g h).toArray ty (0, 0)) ∧ LsS w g p.2.2.2.1 ∧ LsS w h p.2.2.2.2
theorem SetV'.inj {w : World} {b : Nat} {p q : SetN} (h : SetV' w b p) (k : SetV' w b q) : p = q := by
  obtain ⟨o, g, h, t, e, hg, hh⟩ := h
  obtain ⟨o', g', h', t', e', hg', hh'⟩ := k
  rw [e] at e'
  simp only [Option.some.injEq, Obj.cells.injEq] at e'
  exact cSetN.inj w (.agg (setL p g h).toArray) p q ⟨o, g, h, rfl, hg, hh⟩ ⟨o', g', h', by rw [e'.1], hg', hh'⟩
def cVSt : Cod SetN := ⟨fun w v n => ∃ b, v = Pt b ∧ SetV' w b n, fun w v n m ⟨b, e, h⟩ ⟨b', e', h'⟩ => by
  rw [e] at e'
  cases e'
  exact h.inj h'⟩
def cB1 : Contract := fnW (Cods.cons cSj (Cods.cons cSj (Cods.cons cVSt Cods.nil))) (fun _ _ => True) (fun p _ v _ => v = S (rF p.1 * rF p.2.2.1.1 + rF p.2.1 * rF p.2.2.1.2.1).val)
def Tb1 : Table := T0.add 90 cCmj
theorem keepTb1 : AllKeep Tryz.prog GT Tb1 := keepT0.add keepsCmj
theorem aggSet : agg? Tryz.prog 42 = some true := by kernel_rfl
theorem szSet : sz Tryz.prog 42 = some 14 := by kernel_rfl
theorem keepsB1 : Keeps1 Tryz.prog GT 89 cB1 := by
  refine keepsW (T := Tb1) (A := ann89) hMix keepTb1 hGT (calls_of (by kernel_rfl)) (callsW_of (by kernel_rfl)) fun args ⟨s, t, p, _⟩ w0 hrd hpre hg => ?_
  obtain ⟨_, _, rfl, ⟨rfl, hs⟩, _, _, rfl, ⟨rfl, ht⟩, _, _, rfl, ⟨b, rfl, okp, g, h, ty, hrow, hg, hh⟩, rfl⟩ := hrd
  dsimp only at hs ht okp hrow hg hh
  refine ⟨[.x (.v 0), .x (.v 1), .x (.v 2)], [], [], 4, env0 [S s, S t, Pt b] w0, fun b => b, 0, rfl, rfl, fun X hX => mem_none hX rfl, fun X hP hS hw hX hR => ?_⟩
  subst hw; try dsimp only at hR
  rw [vc89 X]
  rw [ask_aggS]; intro b0 hb0
  rw [ask_aggS]; intro b1 hb1
  rw [ask_zero4]; intro b2 hb2
  refine a_ldPA (cs := setL p g h) (kn0 X) (by rw [hP]; exact aggSet) (by rw [hP]; exact szSet) hrow List.not_mem_nil (fun j c hj => by rw [Nat.zero_add]; simpa using hj) ?_
  refine call_W hX hS (T := Tb1) (f := 90) rfl (p, s, t, ()) (fun w hw => ⟨⟨_, _, rfl, ⟨okp, g, h, rfl, hg.stp0 hw.stp, hh.stp0 hw.stp⟩, _, _, rfl, ⟨rfl, hs⟩, _, _, rfl, ⟨rfl, ht⟩, rfl⟩, trivial⟩) fun v w w' h k s su hv => ?_
  dsimp only at hv
  subst hv
  rw [ask_aggS]
  exact hR _ _ _ _ fun _ _ => rfl
#print axioms keepsB1
end Go.Vc
