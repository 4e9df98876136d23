/-
  What the law makes of its input: lists cut, both sides; what it compares.
-/
import Derived.Test.YtcnmnmhmmgjblaaGreatDoorDIm
namespace Go.Vc
open Go Go.Proofs Go.RowKit
/-! ### lists of raw scalars -/
theorem tyW4 : ElTy Tryz.prog 24 23 4 32 (.agg #[U 0, U 0, U 0, U 0]) := ⟨by kernel_rfl, by kernel_rfl⟩
theorem aggW4 : agg? Tryz.prog 23 = some true := by kernel_rfl
theorem szW4 : sz Tryz.prog 23 = some 4 := by kernel_rfl
section
variable {X : Ctx} {u : World} {v : Value} {n i : Nat} {ow : List Nat} {K : Value → Prop}
/-- Raw scalar i. -/
theorem ld_W4 {l : List Nat} (hP : X.P = Tryz.prog) (hk : Kn X u) (h : SlAt u v n (l.flatMap encS)) (hn : l.length = n) (hi : i < l.length) (how : ∀ b, v.ownBlock = some b → b ∉ ow)
    (hK : K (S (l.getD i 0))) : Ask (rIad X.P 24 v (J i)) fun p => Ask (rLoad X u ow 23 p) K := by
  refine a_iadN hP tyW4 h (by omega) ?_
  have e : l.getD i 0 = l[i] := by rw [List.getD_eq_getElem?_getD, List.getElem?_eq_getElem hi]; rfl
  refine a_load_agg (cs := encS l[i]) hk h (by rw [hP]; exact aggW4) (by rw [hP]; exact szW4) how (by simp [encS]) (flat_at encS_len l i _ (List.getElem?_eq_getElem hi)) ?_
  rw [← e]; exact hK
end
def cut (l : List Nat) : List Nat := l.take 64
theorem cut_len (l : List Nat) : (cut l).length ≤ 64 := by simp [cut]; omega
theorem cut_ok {l : List Nat} (h : ∀ x ∈ l, okS x) : ∀ x ∈ cut l, okS x := fun x hx => h x (List.mem_of_mem_take hx)
theorem flat_cut (l : List Nat) (k : Nat) : (l.flatMap encS).take (k * 4) = (l.take k).flatMap encS := by
  induction l generalizing k with
  | nil => simp
  | cons a r ih =>
    cases k with
    | zero => simp
    | succ k => rw [List.flatMap_cons, List.take_succ_cons, List.flatMap_cons, show (k + 1) * 4 = (encS a).length + k * 4 by rw [encS_len]; omega, List.take_length_add_append, ih]
def ann66 : Ann := ⟨[], [], 70, [], [], none, [], []⟩
theorem vc66 (X : Ctx) (β : Nat → Nat) (x0 : Value) : (run Tryz.prog ann66 66 [.x (.v 0)] [] [] 2).den X (env0 [x0] X.w0) 2 β 0 (fun _ _ _ => False) = (
 Ask (rLen X.P 24 x0) fun x2 =>
 Ask (rBin X.P .gtr 3 false true x2 (J 64)) fun x3 =>
 (∃ t, x3 = .bool t) ∧ (x3 = .bool true →
 Ask (rSlc X.P 24 x0 none (some (J 64)) none) fun x4 =>
 Ret X X.w0 [] [] x4) ∧ (x3 = .bool false →
 Ret X X.w0 [] [] x0)) := by kernel_rfl
def cCut : Contract := fnW (Cods.cons cLS Cods.nil) (fun _ _ => True) (fun p _ v w' => cLS.rd w' v (cut p.1))
theorem keepsCut : Keeps1 Tryz.prog GT 66 cCut := by
  refine keepsW (T := T0) (A := ann66) hMix keepT0 hGT (calls_of (by kernel_rfl)) (callsW_of (by kernel_rfl)) fun args ⟨l, _⟩ w0 hrd hpre hg => ?_
  obtain ⟨x, _, rfl, hl, rfl⟩ := hrd
  dsimp only at hl
  refine ⟨[.x (.v 0)], [], [], 2, env0 [x] w0, fun b => b, 0, rfl, rfl, fun X hX => mem_none hX rfl, fun X hP hS hw hX hR => ?_⟩
  subst hw; try dsimp only at hR
  rw [vc66 X]
  replace hl : Ls encS okS X.w0 x l := hl
  refine a_len hP tyW4 hl.1 ?_
  rw [ask_gtr]
  refine a_ifD (fun h => ?_) fun h => ?_
  · have h64 : 64 < l.length := by omega
    refine a_slcH hP tyW4 hl.1 (hi := 64) (by omega) ?_
    refine hR _ _ _ _ fun w hw => ⟨?_, cut_ok hl.2⟩
    have := slAt_sub (s := 4) (lo := 0) (hi := 64) hl.1 (by omega) (by omega)
    rw [Nat.sub_zero, Nat.zero_mul, List.drop_zero, flat_cut] at this
    have e : (cut l).length = 64 := by simp [cut]; omega
    rw [e]
    exact this.stp0 hw.stp
  · have e : cut l = l := List.take_of_length_le (by omega)
    refine hR _ _ _ _ fun w hw => ?_
    show cLS.rd w x (cut l)
    rw [e]
    exact hl.stp0 hw.stp
def ann24 : Ann := ⟨[], [], 70, [], [1, 2], none, [], []⟩
theorem vc24 (X : Ctx) (β : Nat → Nat) (x0 : Value) : (run Tryz.prog ann24 24 [.x (.v 0)] [] [] 2).den X (env0 [x0] X.w0) 2 β 0 (fun _ _ _ => False) = (
 Ask (rAgg 4 x0) fun x2 =>
 AskNew X.w0 fun _ =>
 Ask (rAgg 4 (.agg #[(U 0), (U 0), (U 0), (U 0)])) fun _ =>
 AskNew X.w0 fun b1 =>
 Ask (rAgg 4 x2) fun x4 =>
 Ask (rSel (aggArr x4) 0 1 false) fun x5 =>
 Ask (rSel (aggArr x4) 1 1 false) fun x6 =>
 Ask (rSel (aggArr x4) 2 1 false) fun x7 =>
 Ask (rSel (aggArr x4) 3 1 false) fun x8 =>
 Ask (rAgg 4 (.agg #[x5, x6, x7, x8])) fun x9 =>
 Ret X X.w0 [b1] [] x9) := by kernel_rfl
def cSame1 : Contract := fnP enc1 (· < W256) (fun n v => v = S n)
theorem keepsLn1 : Keeps1 Tryz.prog GT 24 cSame1 := by
  refine keepsP (T := T0) (A := ann24) inj1 hMix keepT0 hGT (calls_of (by kernel_rfl)) (callsW_of (by kernel_rfl)) fun n w0 hn _ => ⟨[.x (.v 0)], [], [], 2, env0 [S n] w0, fun b => b, 0, rfl, rfl, fun X hX => mem_none hX rfl, fun X hP hS hw hX hR => ?_⟩
  subst hw
  rw [vc24 X]
  rw [ask_aggS]; intro _ _
  rw [ask_zero4]; intro _ _
  rw [ask_aggS]
  iterate 4 refine a_sel1 rfl ?_
  rw [show Value.agg #[U (lb n 0), U (lb n 1), U (lb n 2), U (lb n 3)] = S n from rfl, ask_aggS]
  exact hR _ _ _ _ rfl
/-! ### lists as they are made, a mark behind them -/
/-- Places of a list, as far as it is written. -/
def padN (l : List Nat) (i n : Nat) : List Nat := (List.range n).map fun j => if j < i then l.getD j 0 else 0
theorem padN_len (l : List Nat) (i n : Nat) : (padN l i n).length = n := by simp [padN]
theorem padN_zero (l : List Nat) (n : Nat) : padN l 0 n = List.replicate n 0 := by
  refine List.ext_getElem (by simp [padN]) fun j h1 h2 => ?_
  simp [padN]
theorem padN_set (l : List Nat) (i n : Nat) : (padN l i n).set i (l.getD i 0) = padN l (i + 1) n := by
  refine List.ext_getElem (by simp [padN]) fun j h1 h2 => ?_
  rw [List.getElem_set]
  simp only [padN, List.getElem_map, List.getElem_range]
  by_cases e : i = j
  · subst e; rw [if_pos rfl, if_pos (by omega)]
  · rw [if_neg e]
    by_cases q : j < i
    · rw [if_pos q, if_pos (by omega)]
    · rw [if_neg q, if_neg (by omega)]
theorem padN_end (l : List Nat) (k : Nat) : (padN l l.length (l.length + 1)).set l.length k = l ++ [k] := by
  refine List.ext_getElem (by simp [padN]) fun j h1 h2 => ?_
  rw [List.getElem_set]
  by_cases e : l.length = j
  · subst e; rw [if_pos rfl]; simp
  · rw [if_neg e]
    have hj : j < l.length := by simp [padN] at h1; omega
    simp only [padN, List.getElem_map, List.getElem_range]
    rw [if_pos hj, List.getD_eq_getElem?_getD, List.getElem?_eq_getElem hj, List.getElem_append_left hj]; rfl
/-- A list, and a mark behind it. -/
def MkAt (k : Nat) (w : World) (v : Value) (l : List Nat) : Prop := ∃ g cap, v = .slice (some ⟨g, 0, none⟩) l.length cap ∧ SlAt w (.slice (some ⟨g, 0, none⟩) (l.length + 1) cap) (l.length + 1) ((l ++ [k]).flatMap encS) ∧ ∀ x ∈ l, okS x
theorem MkAt.stp0 {k : Nat} {u w : World} {v : Value} {l : List Nat} (h : MkAt k u v l) (hs : Stp [] u w) : MkAt k w v l := by
  obtain ⟨g, cap, e, h, ok⟩ := h
  exact ⟨g, cap, e, h.stp0 hs, ok⟩
theorem MkAt.ls {k : Nat} {w : World} {v : Value} {l : List Nat} (h : MkAt k w v l) : cLS.rd w v l := by
  obtain ⟨g, cap, rfl, h, ok⟩ := h
  refine ⟨?_, ok⟩
  have := slAt_sub (s := 4) (lo := 0) (hi := l.length) h (by omega) (by omega)
  rw [Nat.sub_zero, Nat.zero_mul, List.drop_zero, flat_cut, List.take_left' rfl, sub_zero] at this
  exact this
def cMkK (k : Nat) : Cod (List Nat) := ⟨MkAt k, fun w v a b h h' => cLS.inj w v a b h.ls h'.ls⟩
def ann51 : Ann := ⟨[(4, ([4], []))], [24], 70, [(66, false)], [], none, [], []⟩
theorem vc51 (X : Ctx) (β : Nat → Nat) (x0 : Value) : (run Tryz.prog ann51 51 [.x (.v 0)] [] [] 2).den X (env0 [x0] X.w0) 2 β 0 (fun _ _ _ => False) = (
 AskW X X.w0 [] [] false 66 [x0] fun x2 w2 =>
 Ask (rLen X.P 24 x2) fun x3 =>
 Ask (rBin X.P .add 3 false true x3 (J 1)) fun x4 =>
 AskO X w2 [] [] false (Op.makeSlice 40 (Operand.tmp 9) (Operand.tmp 9)) 40 [(9, x4), (9, x4)] fun x5 w5 =>
 ∃ (I0 : List Value → World → Prop) (μ0 : List Value → World → Nat), (∀ w, KnownV X w5 [] [] w → I0 [(J 0)] w) ∧ ∀ x6 w7, I0 [x6] w7 →
 Ask (rLen X.P 24 x2) fun x8 =>
 Ask (rBin X.P .lss 3 false false x6 x8) fun x9 =>
 (∃ t, x9 = .bool t) ∧ (x9 = .bool true →
 Ask (rIad X.P 24 x2 x6) fun x10 =>
 Ask (rLoad X w7 [] 23 x10) fun x11 =>
 AskF X 24 [x11] fun x12 =>
 Ask (rIad X.P 40 x5 x6) fun x13 =>
 AskO X w7 [] [] true (Op.store 31 (Operand.tmp 24) (Operand.tmp 23)) 0 [(24, x13), (23, x12)] fun _ w14 =>
 Ask (rBin X.P .add 3 false true x6 (J 1)) fun x15 =>
 Again X w14 [] [] fun w => I0 [x15] w ∧ μ0 [x15] w < μ0 [x6] w7) ∧ (x9 = .bool false →
 Ask (rLen X.P 24 x2) fun x10 =>
 AskF X 24 [(.agg #[(U 77), (U 0), (U 0), (U 0)])] fun x11 =>
 Ask (rIad X.P 40 x5 x10) fun x12 =>
 AskO X w7 [] [] true (Op.store 31 (Operand.tmp 30) (Operand.tmp 29)) 0 [(30, x12), (29, x11)] fun _ w13 =>
 Ask (rLen X.P 24 x2) fun x14 =>
 Ask (rSlc X.P 40 x5 none (some x14) none) fun x15 =>
 Ret X w13 [] [] x15)) := by kernel_rfl
def Tls : Table := (T0.add 66 cCut).add 24 cSame1
theorem keepTls : AllKeep Tryz.prog GT Tls := (keepT0.add keepsCut).add keepsLn1
theorem szLn4 : sz Tryz.prog 31 = some 4 := by kernel_rfl
def cMade (k : Nat) : Contract := fnW (Cods.cons cLS Cods.nil) (fun _ _ => True) (fun p w v w' => MkAt k w' v (cut p.1) ∧ ∃ g, v.ownBlock = some g ∧ w.heap.size ≤ g)
theorem mk_zero (n : Nat) : (madeCells (Value.agg #[U 0, U 0, U 0, U 0]).cells (n * 4)).toList = (List.replicate n 0).flatMap encS := made_enc (α := Nat) (enc := encS) (a := 0) (s := 4) (by kernel_rfl) rfl (by decide) n
theorem e77' : Value.agg #[U 77, U 0, U 0, U 0] = S 77 := by kernel_rfl
theorem e78' : Value.agg #[U 78, U 0, U 0, U 0] = S 78 := by kernel_rfl
theorem lnx {X : Ctx} {K : Value → Prop} {l : List Nat} {i : Nat} (hS : X.S = Tls.spec) (h : ∀ x ∈ l, okS x) (hK : K (S (l.getD i 0))) : AskF X 24 [S (l.getD i 0)] K := call_PE hS (T := Tls) (f := 24) rfl _ (getD_okS h i) hK
theorem lny {X : Ctx} {K : Value → Prop} (hS : X.S = Tls.spec) (hK : K (S 77)) : AskF X 24 [.agg #[U 77, U 0, U 0, U 0]] K := by
  rw [e77']
  exact call_PE hS (T := Tls) (f := 24) rfl 77 (show 77 < W256 by decide) hK
theorem keepsLs : Keeps1 Tryz.prog GT 51 (cMade 77) := by
  refine keepsW (T := Tls) (A := ann51) hMix keepTls hGT (calls_of (by kernel_rfl)) (callsW_of (by kernel_rfl)) fun args ⟨l, _⟩ w0 hrd hpre hg => ?_
  obtain ⟨x, _, rfl, hl, rfl⟩ := hrd
  dsimp only at hl
  refine ⟨[.x (.v 0)], [], [], 2, env0 [x] w0, fun b => b, 0, rfl, rfl, fun X hX => mem_none hX rfl, fun X hP hS hw hX hR => ?_⟩
  subst hw; try dsimp only at hR
  rw [vc51 X]
  replace hl : Ls encS okS X.w0 x l := hl
  refine call_W hX hS (T := Tls) (f := 66) rfl (l, ()) (fun w hw => ⟨⟨_, _, rfl, hl.stp0 hw.stp, rfl⟩, trivial⟩) fun v w1 w2 h1 k2 s2 su2 hq => ?_
  replace hq : Ls encS okS w2 v (cut l) := hq
  have hc := cut_len l
  refine a_len hP tyW4 hq.1 ?_
  rw [ask_succ (by omega)]
  refine a_make (n := (cut l).length + 1) hX hP tyL (by simp [argsFn]) (by simp [argsFn]) (by omega) (by unfold maxLen; omega) fun g u3 w3 h3 k3 s3 su3 o3 => ?_
  rw [mk_zero, ← padN_zero (cut l)] at o3
  refine ⟨fun a w => ∃ i, a = [J i] ∧ i ≤ (cut l).length ∧ Kn X w ∧ Stp [] w2 w ∧ w.ownsRow u3.heap.size 31 4 (.slice (some ⟨g, 0, none⟩) ((cut l).length + 1) ((cut l).length + 1)) ((cut l).length + 1) ((padN (cut l) i ((cut l).length + 1)).flatMap encS), fun a _ => match a with | i :: _ => (cut l).length - intNat i | _ => 0, fun w hw => ⟨0, rfl, Nat.zero_le _, hw.kn, su3.trans0 hw.stp, own_stp0 o3 hw.stp⟩, ?_⟩
  rintro _ w ⟨i, he, hi, hk, hs, ho⟩
  simp only [List.cons.injEq, and_true] at he
  obtain rfl := he
  have zu : X.w0.heap.size ≤ u3.heap.size := h3.sz0
  have z2u : w2.heap.size ≤ u3.heap.size := h3.size
  have gl : ∀ b ∈ (Value.slice (some ⟨g, 0, none⟩) ((cut l).length + 1) ((cut l).length + 1)).ownBlock.toList, w2.heap.size ≤ b := fun b hb => Nat.le_trans z2u (ho.lt b (by simpa using hb)).1
  refine a_len hP tyW4 hq.1 ?_
  rw [ask_lssN]
  refine a_ifD (fun hlt => ?_) fun hge => ?_
  · refine ld_W4 hP hk (hq.1.stp0 hs) rfl hlt (fun _ _ => List.not_mem_nil) ?_
    refine lnx hS hq.2 ?_
    refine a_iadN hP tyL (own_slAt ho) (by omega) ?_
    refine a_store (vs := encS ((cut l).getD i 0)) hX hP szLn4 rfl rfl rfl rfl (one_encS _) ho zu (by omega) (by decide) (fun _ _ => List.not_mem_nil) (fun _ _ _ _ => List.not_mem_nil) fun _ w4 w5 h4 k5 s5 su5 o5 => ?_
    rw [lset_flat encS_len _ _ _ (by rw [padN_len]; omega), padN_set] at o5
    rw [ask_succ (by omega)]
    intro w6 hw6
    exact ⟨⟨i + 1, rfl, hlt, hw6.kn, ((hs.trans su5).drop (by simpa using gl)).trans0 hw6.stp, own_stp0 o5 hw6.stp⟩, by simp [intNat]; omega⟩
  · obtain rfl : i = (cut l).length := by omega
    refine a_len hP tyW4 hq.1 ?_
    refine lny hS ?_
    refine a_iadN hP tyL (own_slAt ho) (by omega) ?_
    refine a_store (vs := encS 77) hX hP szLn4 rfl rfl rfl rfl (one_encS _) ho zu (by omega) (by decide) (fun _ _ => List.not_mem_nil) (fun _ _ _ _ => List.not_mem_nil) fun _ w4 w5 h4 k5 s5 su5 o5 => ?_
    rw [lset_flat encS_len _ _ _ (by rw [padN_len]; omega), padN_end] at o5
    refine a_len hP tyW4 hq.1 ?_
    refine a_slcCap hP tyL (hi := (cut l).length) (by omega) ?_
    rw [sub_zero]
    refine hR _ _ _ _ fun w hw => ⟨⟨g, _, rfl, (own_slAt o5).stp0 hw.stp, cut_ok hl.2⟩, g, rfl, Nat.le_trans zu (ho.lt g rfl).1⟩
def ann41 : Ann := ⟨[(4, ([4], []))], [], 70, [(66, false)], [], none, [], []⟩
theorem vc41 (X : Ctx) (β : Nat → Nat) (x0 : Value) : (run Tryz.prog ann41 41 [.x (.v 0)] [] [] 2).den X (env0 [x0] X.w0) 2 β 0 (fun _ _ _ => False) = (
 AskW X X.w0 [] [] false 66 [x0] fun x2 w2 =>
 Ask (rLen X.P 24 x2) fun x3 =>
 Ask (rBin X.P .add 3 false true x3 (J 1)) fun x4 =>
 AskO X w2 [] [] false (Op.makeSlice 28 (Operand.tmp 9) (Operand.tmp 9)) 28 [(9, x4), (9, x4)] fun x5 w5 =>
 ∃ (I0 : List Value → World → Prop) (μ0 : List Value → World → Nat), (∀ w, KnownV X w5 [] [] w → I0 [(J 0)] w) ∧ ∀ x6 w7, I0 [x6] w7 →
 Ask (rLen X.P 24 x2) fun x8 =>
 Ask (rBin X.P .lss 3 false false x6 x8) fun x9 =>
 (∃ t, x9 = .bool t) ∧ (x9 = .bool true →
 Ask (rIad X.P 24 x2 x6) fun x10 =>
 Ask (rLoad X w7 [] 23 x10) fun x11 =>
 Ask (rIad X.P 28 x5 x6) fun x12 =>
 AskO X w7 [] [] true (Op.store 29 (Operand.tmp 23) (Operand.tmp 22)) 0 [(23, x12), (22, x11)] fun _ w13 =>
 Ask (rBin X.P .add 3 false true x6 (J 1)) fun x14 =>
 Again X w13 [] [] fun w => I0 [x14] w ∧ μ0 [x14] w < μ0 [x6] w7) ∧ (x9 = .bool false →
 Ask (rLen X.P 24 x2) fun x10 =>
 Ask (rIad X.P 28 x5 x10) fun x11 =>
 AskO X w7 [] [] true (Op.store 29 (Operand.tmp 28) (Operand.tmp 27)) 0 [(28, x11), (27, (.agg #[(U 78), (U 0), (U 0), (U 0)]))] fun _ w12 =>
 Ask (rLen X.P 24 x2) fun x13 =>
 Ask (rSlc X.P 28 x5 none (some x13) none) fun x14 =>
 Ret X w12 [] [] x14)) := by kernel_rfl
theorem keepsScs : Keeps1 Tryz.prog GT 41 (cMade 78) := by
  refine keepsW (T := Tls) (A := ann41) hMix keepTls hGT (calls_of (by kernel_rfl)) (callsW_of (by kernel_rfl)) fun args ⟨l, _⟩ w0 hrd hpre hg => ?_
  obtain ⟨x, _, rfl, hl, rfl⟩ := hrd
  dsimp only at hl
  refine ⟨[.x (.v 0)], [], [], 2, env0 [x] w0, fun b => b, 0, rfl, rfl, fun X hX => mem_none hX rfl, fun X hP hS hw hX hR => ?_⟩
  subst hw; try dsimp only at hR
  rw [vc41 X]
  replace hl : Ls encS okS X.w0 x l := hl
  refine call_W hX hS (T := Tls) (f := 66) rfl (l, ()) (fun w hw => ⟨⟨_, _, rfl, hl.stp0 hw.stp, rfl⟩, trivial⟩) fun v w1 w2 h1 k2 s2 su2 hq => ?_
  replace hq : Ls encS okS w2 v (cut l) := hq
  have hc := cut_len l
  refine a_len hP tyW4 hq.1 ?_
  rw [ask_succ (by omega)]
  refine a_make (n := (cut l).length + 1) hX hP tySI (by simp [argsFn]) (by simp [argsFn]) (by omega) (by unfold maxLen; omega) fun g u3 w3 h3 k3 s3 su3 o3 => ?_
  rw [mk_zero, ← padN_zero (cut l)] at o3
  refine ⟨fun a w => ∃ i, a = [J i] ∧ i ≤ (cut l).length ∧ Kn X w ∧ Stp [] w2 w ∧ w.ownsRow u3.heap.size 29 4 (.slice (some ⟨g, 0, none⟩) ((cut l).length + 1) ((cut l).length + 1)) ((cut l).length + 1) ((padN (cut l) i ((cut l).length + 1)).flatMap encS), fun a _ => match a with | i :: _ => (cut l).length - intNat i | _ => 0, fun w hw => ⟨0, rfl, Nat.zero_le _, hw.kn, su3.trans0 hw.stp, own_stp0 o3 hw.stp⟩, ?_⟩
  rintro _ w ⟨i, he, hi, hk, hs, ho⟩
  simp only [List.cons.injEq, and_true] at he
  obtain rfl := he
  have zu : X.w0.heap.size ≤ u3.heap.size := h3.sz0
  have z2u : w2.heap.size ≤ u3.heap.size := h3.size
  have gl : ∀ b ∈ (Value.slice (some ⟨g, 0, none⟩) ((cut l).length + 1) ((cut l).length + 1)).ownBlock.toList, w2.heap.size ≤ b := fun b hb => Nat.le_trans z2u (ho.lt b (by simpa using hb)).1
  refine a_len hP tyW4 hq.1 ?_
  rw [ask_lssN]
  refine a_ifD (fun hlt => ?_) fun hge => ?_
  · refine ld_W4 hP hk (hq.1.stp0 hs) rfl hlt (fun _ _ => List.not_mem_nil) ?_
    skip
    refine a_iadN hP tySI (own_slAt ho) (by omega) ?_
    refine a_store (vs := encS ((cut l).getD i 0)) hX hP szS rfl rfl rfl rfl (one_encS _) ho zu (by omega) (by decide) (fun _ _ => List.not_mem_nil) (fun _ _ _ _ => List.not_mem_nil) fun _ w4 w5 h4 k5 s5 su5 o5 => ?_
    rw [lset_flat encS_len _ _ _ (by rw [padN_len]; omega), padN_set] at o5
    rw [ask_succ (by omega)]
    intro w6 hw6
    exact ⟨⟨i + 1, rfl, hlt, hw6.kn, ((hs.trans su5).drop (by simpa using gl)).trans0 hw6.stp, own_stp0 o5 hw6.stp⟩, by simp [intNat]; omega⟩
  · obtain rfl : i = (cut l).length := by omega
    refine a_len hP tyW4 hq.1 ?_
    rw [e78']
    refine a_iadN hP tySI (own_slAt ho) (by omega) ?_
    refine a_store (vs := encS 78) hX hP szS rfl rfl rfl rfl (one_encS _) ho zu (by omega) (by decide) (fun _ _ => List.not_mem_nil) (fun _ _ _ _ => List.not_mem_nil) fun _ w4 w5 h4 k5 s5 su5 o5 => ?_
    rw [lset_flat encS_len _ _ _ (by rw [padN_len]; omega), padN_end] at o5
    refine a_len hP tyW4 hq.1 ?_
    refine a_slcCap hP tySI (hi := (cut l).length) (by omega) ?_
    rw [sub_zero]
    refine hR _ _ _ _ fun w hw => ⟨⟨g, _, rfl, (own_slAt o5).stp0 hw.stp, cut_ok hl.2⟩, g, rfl, Nat.le_trans zu (ho.lt g rfl).1⟩
/-! ### the document's -/
def ann60 : Ann := ⟨[], [15, 119], 70, [], [1], none, [], []⟩
theorem vc60 (X : Ctx) (β : Nat → Nat) (x0 : Value) : (run Tryz.prog ann60 60 [.x (.v 0)] [] [] 2).den X (env0 [x0] X.w0) 2 β 0 (fun _ _ _ => False) = (
 Ask (rAgg 4 x0) fun x2 =>
 AskNew X.w0 fun _ =>
 AskNew X.w0 fun b1 =>
 AskF X 15 [x2] fun x3 =>
 AskF X 119 [x3] fun x4 =>
 Ask (rAgg 26 x4) fun x5 =>
 Ret X X.w0 [b1] [] x5) := by kernel_rfl
def cDLn : Contract := fnP enc1 (· < W256) (fun n v => v = EF (rF n))
def Tdl16 : Table := (T0.add 15 cqLeast).add 119 cLineOfS
theorem keepTdl16 : AllKeep Tryz.prog GT Tdl16 := (keepT0.add keepsqRLeast).add keepsLineOf
theorem keepsDLn : Keeps1 Tryz.prog GT 60 cDLn := by
  refine keepsP (T := Tdl16) (A := ann60) inj1 hMix keepTdl16 hGT (calls_of (by kernel_rfl)) (callsW_of (by kernel_rfl)) fun n w0 hn _ => ⟨[.x (.v 0)], [], [], 2, env0 [S n] w0, fun b => b, 0, rfl, rfl, fun X hX => mem_none hX rfl, fun X hP hS hw hX hR => ?_⟩
  subst hw
  rw [vc60 X]
  rw [ask_aggS]; intro _ _ _ _
  refine call_PE hS (T := Tdl16) (f := 15) rfl n hn ?_
  refine call_PE hS (T := Tdl16) (f := 119) rfl (rF n).val (val_lt _) ?_
  rw [ask_aggE]
  exact hR _ _ _ _ rfl
def cMadeR {α : Type} (e : Nat) (s : Nat) (enc : α → List Value) (f : Nat → α) : Contract := fnW (Cods.cons cLS Cods.nil) (fun _ _ => True) (fun p w v w' => w'.ownsRow w.heap.size e s v (cut p.1).length (((cut p.1).map f).flatMap enc))
def Tds16 : Table := ((T0.add 66 cCut).add 60 cDLn).add 15 cqLeast
theorem keepTds16 : AllKeep Tryz.prog GT Tds16 := ((keepT0.add keepsCut).add keepsDLn).add keepsqRLeast
def ann61 : Ann := ⟨[(4, ([3, 4], []))], [60], 70, [(66, false)], [], none, [], []⟩
theorem vc61 (X : Ctx) (β : Nat → Nat) (x0 : Value) : (run Tryz.prog ann61 61 [.x (.v 0)] [] [] 2).den X (env0 [x0] X.w0) 2 β 0 (fun _ _ _ => False) = (
 AskW X X.w0 [] [] false 66 [x0] fun x2 w2 =>
 ∃ (I0 : List Value → World → Prop) (μ0 : List Value → World → Nat), (∀ w, KnownV X w2 [] [] w → I0 [(.slice none 0 0), (J 0)] w) ∧ ∀ x3 x4 w5, I0 [x3, x4] w5 →
 Ask (rLen X.P 24 x2) fun x6 =>
 Ask (rBin X.P .lss 3 false false x4 x6) fun x7 =>
 (∃ t, x7 = .bool t) ∧ (x7 = .bool true →
 Ask (rIad X.P 24 x2 x4) fun x8 =>
 Ask (rLoad X w5 [] 23 x8) fun x9 =>
 AskF X 60 [x9] fun x10 =>
 AskO X w5 [] [] false (Op.buildSlice 63 1 #[(0, Operand.tmp 18)]) 63 [(18, x10)] fun x11 w11 =>
 AskO X w11 [] [] true (appOp (.tmp 13) (.tmp 19) 63) 63 [(13, x3), (19, x11)] fun x12 w12 =>
 Ask (rBin X.P .add 3 false true x4 (J 1)) fun x13 =>
 Again X w12 [] [] fun w => I0 [x12, x13] w ∧ μ0 [x12, x13] w < μ0 [x3, x4] w5) ∧ (x7 = .bool false →
 Ret X w5 [] [] x3)) := by kernel_rfl
theorem keepsDLs : Keeps1 Tryz.prog GT 61 (cMadeR 62 26 encEF rF) := by
  refine keepsW (T := Tds16) (A := ann61) hMix keepTds16 hGT (calls_of (by kernel_rfl)) (callsW_of (by kernel_rfl)) fun args ⟨l, _⟩ w0 hrd hpre hg => ?_
  obtain ⟨x, _, rfl, hl, rfl⟩ := hrd
  dsimp only at hl
  refine ⟨[.x (.v 0)], [], [], 2, env0 [x] w0, fun b => b, 0, rfl, rfl, fun X hX => mem_none hX rfl, fun X hP hS hw hX hR => ?_⟩
  subst hw; try dsimp only at hR
  rw [vc61 X]
  replace hl : Ls encS okS X.w0 x l := hl
  refine call_W hX hS (T := Tds16) (f := 66) rfl (l, ()) (fun w hw => ⟨⟨_, _, rfl, hl.stp0 hw.stp, rfl⟩, trivial⟩) fun v w1 w2 h1 k2 s2 su2 hq => ?_
  replace hq : Ls encS okS w2 v (cut l) := hq
  have hc := cut_len l
  have z2 : X.w0.heap.size ≤ w2.heap.size := k2.sz0
  refine ⟨fun a w => ∃ (i : Nat) (o : Value), a = [o, J i] ∧ i ≤ (cut l).length ∧ Kn X w ∧ Stp [] w2 w ∧ w.ownsRow w2.heap.size 62 26 o i ((((cut l).map rF).take i).flatMap encEF), fun a _ => match a with | [_, i] => (cut l).length - intNat i | _ => 0, fun w hw => ⟨0, _, rfl, Nat.zero_le _, hw.kn, hw.stp, World.ownsRow_nil _ _ _ _⟩, ?_⟩
  rintro q0 _ w ⟨i, o, he, hi, hk, hs, ho⟩
  simp only [List.cons.injEq, and_true] at he
  obtain ⟨rfl, rfl⟩ := he
  refine a_len hP tyW4 hq.1 ?_
  rw [ask_lssN]
  refine a_ifD (fun hlt => ?_) fun hge => ?_
  · refine ld_W4 hP hk (hq.1.stp0 hs) rfl hlt (fun _ _ => List.not_mem_nil) ?_
    refine call_PE hS (T := Tds16) (f := 60) rfl ((cut l).getD i 0) (getD_okS hq.2 i) ?_
    refine a_push (encEF (rF ((cut l).getD i 0))).toArray hX hP tyEI rfl rfl (by decide) (by decide) (by decide) (by kernel_rfl) rfl (by simp [one_encEF]) rfl z2 hs.size ho (by unfold maxLen; omega) (by omega) fun o' w3 k3 s3 ho' _ => ?_
    rw [ask_succ (by omega)]
    intro w4 hw4
    have gl : ∀ b ∈ q0.ownBlock.toList, w2.heap.size ≤ b := fun b hb => (ho.lt b (by simpa using hb)).1
    refine ⟨⟨i + 1, o', rfl, hlt, hw4.kn, ((hs.trans s3).drop (by simpa using gl)).trans0 hw4.stp, ?_⟩, by simp [intNat]; omega⟩
    have e : ((cut l).map rF).take (i + 1) = ((cut l).map rF).take i ++ [rF ((cut l).getD i 0)] := by
      rw [List.take_succ_eq_append_getElem (by simpa using hlt), List.getElem_map, List.getD_eq_getElem?_getD, List.getElem?_eq_getElem hlt]; rfl
    rw [e, List.flatMap_append]
    have := own_stp0 ho' hw4.stp
    simpa using this
  · obtain rfl : i = (cut l).length := by omega
    rw [List.take_of_length_le (by simp)] at ho
    exact hR _ _ _ _ fun w hw => own_mono (own_stp0 ho hw.stp) z2
def ann63 : Ann := ⟨[(4, ([3, 4], []))], [15], 70, [(66, false)], [], none, [], []⟩
theorem vc63 (X : Ctx) (β : Nat → Nat) (x0 : Value) : (run Tryz.prog ann63 63 [.x (.v 0)] [] [] 2).den X (env0 [x0] X.w0) 2 β 0 (fun _ _ _ => False) = (
 AskW X X.w0 [] [] false 66 [x0] fun x2 w2 =>
 ∃ (I0 : List Value → World → Prop) (μ0 : List Value → World → Nat), (∀ w, KnownV X w2 [] [] w → I0 [(.slice none 0 0), (J 0)] w) ∧ ∀ x3 x4 w5, I0 [x3, x4] w5 →
 Ask (rLen X.P 24 x2) fun x6 =>
 Ask (rBin X.P .lss 3 false false x4 x6) fun x7 =>
 (∃ t, x7 = .bool t) ∧ (x7 = .bool true →
 Ask (rIad X.P 24 x2 x4) fun x8 =>
 Ask (rLoad X w5 [] 23 x8) fun x9 =>
 AskF X 15 [x9] fun x10 =>
 AskO X w5 [] [] false (Op.buildSlice 50 1 #[(0, Operand.tmp 18)]) 50 [(18, x10)] fun x11 w11 =>
 AskO X w11 [] [] true (appOp (.tmp 13) (.tmp 19) 50) 50 [(13, x3), (19, x11)] fun x12 w12 =>
 Ask (rBin X.P .add 3 false true x4 (J 1)) fun x13 =>
 Again X w12 [] [] fun w => I0 [x12, x13] w ∧ μ0 [x12, x13] w < μ0 [x3, x4] w5) ∧ (x7 = .bool false →
 Ret X w5 [] [] x3)) := by kernel_rfl
theorem keepsDScs : Keeps1 Tryz.prog GT 63 (cMadeR 49 4 encF rF) := by
  refine keepsW (T := Tds16) (A := ann63) hMix keepTds16 hGT (calls_of (by kernel_rfl)) (callsW_of (by kernel_rfl)) fun args ⟨l, _⟩ w0 hrd hpre hg => ?_
  obtain ⟨x, _, rfl, hl, rfl⟩ := hrd
  dsimp only at hl
  refine ⟨[.x (.v 0)], [], [], 2, env0 [x] w0, fun b => b, 0, rfl, rfl, fun X hX => mem_none hX rfl, fun X hP hS hw hX hR => ?_⟩
  subst hw; try dsimp only at hR
  rw [vc63 X]
  replace hl : Ls encS okS X.w0 x l := hl
  refine call_W hX hS (T := Tds16) (f := 66) rfl (l, ()) (fun w hw => ⟨⟨_, _, rfl, hl.stp0 hw.stp, rfl⟩, trivial⟩) fun v w1 w2 h1 k2 s2 su2 hq => ?_
  replace hq : Ls encS okS w2 v (cut l) := hq
  have hc := cut_len l
  have z2 : X.w0.heap.size ≤ w2.heap.size := k2.sz0
  refine ⟨fun a w => ∃ (i : Nat) (o : Value), a = [o, J i] ∧ i ≤ (cut l).length ∧ Kn X w ∧ Stp [] w2 w ∧ w.ownsRow w2.heap.size 49 4 o i ((((cut l).map rF).take i).flatMap encF), fun a _ => match a with | [_, i] => (cut l).length - intNat i | _ => 0, fun w hw => ⟨0, _, rfl, Nat.zero_le _, hw.kn, hw.stp, World.ownsRow_nil _ _ _ _⟩, ?_⟩
  rintro q0 _ w ⟨i, o, he, hi, hk, hs, ho⟩
  simp only [List.cons.injEq, and_true] at he
  obtain ⟨rfl, rfl⟩ := he
  refine a_len hP tyW4 hq.1 ?_
  rw [ask_lssN]
  refine a_ifD (fun hlt => ?_) fun hge => ?_
  · refine ld_W4 hP hk (hq.1.stp0 hs) rfl hlt (fun _ _ => List.not_mem_nil) ?_
    refine call_PE hS (T := Tds16) (f := 15) rfl ((cut l).getD i 0) (getD_okS hq.2 i) ?_
    refine a_push (encF (rF ((cut l).getD i 0))).toArray hX hP tyRI rfl rfl (by decide) (by decide) (by decide) (by kernel_rfl) rfl (by simp [one_encF]) rfl z2 hs.size ho (by unfold maxLen; omega) (by omega) fun o' w3 k3 s3 ho' _ => ?_
    rw [ask_succ (by omega)]
    intro w4 hw4
    have gl : ∀ b ∈ q0.ownBlock.toList, w2.heap.size ≤ b := fun b hb => (ho.lt b (by simpa using hb)).1
    refine ⟨⟨i + 1, o', rfl, hlt, hw4.kn, ((hs.trans s3).drop (by simpa using gl)).trans0 hw4.stp, ?_⟩, by simp [intNat]; omega⟩
    have e : ((cut l).map rF).take (i + 1) = ((cut l).map rF).take i ++ [rF ((cut l).getD i 0)] := by
      rw [List.take_succ_eq_append_getElem (by simpa using hlt), List.getElem_map, List.getD_eq_getElem?_getD, List.getElem?_eq_getElem hlt]; rfl
    rw [e, List.flatMap_append]
    have := own_stp0 ho' hw4.stp
    simpa using this
  · obtain rfl : i = (cut l).length := by omega
    rw [List.take_of_length_le (by simp)] at ho
    exact hR _ _ _ _ fun w hw => own_mono (own_stp0 ho hw.stp) z2
end Go.Vc
