/-
  GensBinds: the walk.
-/
import Derived.Test.YtapkkciimlffnaaDoorDGb4
namespace Go.Vc
open Go Go.Proofs Go.RowKit

section
variable {X : Ctx} {K : Value → Prop}
theorem a_neqBoolG {cx cy a b : Bool} (hP : X.P = Tryd.prog) (hK : K (.bool (a != b))) : Ask (rBin X.P .neq 4 cx cy (.bool a) (.bool b)) K := by
  have e : Ask (rBin Tryd.prog .neq 4 cx cy (.bool a) (.bool b)) K = K (.bool (a != b)) := ask_eq (runs_iff fun w => by cases cx <;> cases cy <;> cases a <;> cases b <;> kernel_rfl)
  rw [hP, e]; exact hK
theorem a_eqlBoolG {cx cy a b : Bool} (hP : X.P = Tryd.prog) (hK : K (.bool (a == b))) : Ask (rBin X.P .eql 4 cx cy (.bool a) (.bool b)) K := by
  have e : Ask (rBin Tryd.prog .eql 4 cx cy (.bool a) (.bool b)) K = K (.bool (a == b)) := ask_eq (runs_iff fun w => by cases cx <;> cases cy <;> cases a <;> cases b <;> kernel_rfl)
  rw [hP, e]; exact hK
theorem condsV2G {a b : Bool} : condsV [(.bool a, a), (.bool b, b)] := fun x hx => by
  simp only [List.mem_cons, List.not_mem_nil, or_false] at hx
  rcases hx with rfl | rfl <;> rfl
theorem condsV3G {a b c : Bool} : condsV [(.bool a, a), (.bool b, b), (.bool c, c)] := fun x hx => by
  simp only [List.mem_cons, List.not_mem_nil, or_false] at hx
  rcases hx with rfl | rfl | rfl <;> rfl
theorem condsNot {g : List (Value × Bool)} {a b : Bool} (hm : (.bool a, b) ∈ g) (h : a ≠ b) : ¬ condsV g := fun hc => h (by have := hc _ hm; simpa using this)
end
theorem and7 (i : Int) : ∃ n : Nat, n ≤ 7 ∧ IntKind.i64.wrap ((BitVec.ofInt IntKind.i64.bits i &&& BitVec.ofInt IntKind.i64.bits ((7 : Nat) : Int)).toNat : Int) = (n : Int) := by
  have e : (BitVec.ofInt IntKind.i64.bits i &&& BitVec.ofInt IntKind.i64.bits ((7 : Nat) : Int)).toNat ≤ 7 := by
    rw [BitVec.toNat_and]
    exact Nat.le_trans Nat.and_le_right (by decide)
  exact ⟨_, e, wrap_i64 (by omega) (by omega)⟩
def cGB : Contract := fnW (Cods.cons cI (Cods.cons cS (Cods.cons cS (Cods.cons cS (Cods.cons cS (Cods.cons cLS (Cods.cons cLS (Cods.cons cLS (Cods.cons cLS Cods.nil))))))))) (fun _ _ => True) (fun _ _ v _ => v = .bool true)
def Tgb : Table := (((((((T0.add 22 cBasis).add 23 cAliveL9).add 24 cCommitF).add 25 cFSame).add 10 cSameS).add 26 cCvF).add 27 cAt9).add 28 cLeastS
theorem keepTgb : AllKeep Tryd.prog GT Tgb := (((((((keepT0.add keepsBasis).add keepsAliveL9).add keepsCommitF).add keepsFSame).add keepsSame).add keepsCvF).add keepsAt9).add keepsLeast
theorem getD_okG {l : List Nat} (h : ∀ x ∈ l, okS x) (j : Nat) : okS (l.getD j 0) := by
  rw [List.getD_eq_getElem?_getD]
  cases hj : l[j]? with
  | none => exact (by decide : (0 : Nat) < W256)
  | some x => exact h x (List.mem_of_getElem? hj)
section
variable {X : Ctx}
/-- Are two lists the same at a place, where all was the same till then? -/
theorem gb_pair (hX : Std X) (hS : X.S = Tgb.spec) {t0 : Bool} {w : World} (hk : Kn X w) {bl : List KB} {xa xc : Value} {la lc : List Nat} (ha : ∀ w, Kn X w → Ls encS okS w xa la) (hc : ∀ w, Kn X w → Ls encS okS w xc lc) {k : Nat} {K : Value → World → Prop}
    (hK : ∀ t1 w', (t1 = true ↔ t0 = true ∧ la.getD k 0 % lN = lc.getD k 0 % lN) → Kn X w' → Stp [] w w' → K (.bool t1) w') :
    AskGW X [(.bool t0, true)] w [] bl false 27 [xa, J k] fun v1 w1 => AskGW X [(.bool t0, true)] w1 [] bl false 27 [xc, J k] fun v2 w2 =>
      AskGF X [(.bool t0, true)] 10 [v1, v2] fun v3 => Ask (rPick (.bool t0) v3 (.bool false)) fun v4 => K v4 w2 := by
  cases t0 with
  | false =>
    refine a_GW_off (condsV1_not (by decide)) fun _ => a_GW_off (condsV1_not (by decide)) fun _ => a_GF_off (condsV1_not (by decide)) fun _ => ?_
    rw [ask_pickF]
    exact hK _ _ (by simp) hk (Stp.refl _ _)
  | true =>
    refine a_GW_on condsV1 (call_W hX hS (T := Tgb) (f := 27) rfl (la, k) (fun w1 hw => ⟨⟨_, rfl, ha _ hw.kn⟩, trivial⟩) fun v1 w1 w1' h1 k1 s1 su1 hv1 => ?_)
    subst hv1
    refine a_GW_on condsV1 (call_W hX hS (T := Tgb) (f := 27) rfl (lc, k) (fun w1 hw => ⟨⟨_, rfl, hc _ hw.kn⟩, trivial⟩) fun v2 w2 w2' h2 k2 s2 su2 hv2 => ?_)
    subst hv2
    refine a_GF_on condsV1 (call_PE hS (T := Tgb) (f := 10) rfl (la.getD k 0, lc.getD k 0) ⟨getD_okG (ha _ hk).2 k, getD_okG (hc _ hk).2 k⟩ ?_)
    rw [ask_pickT]
    exact hK _ _ (by simp) k2 (su1.trans0 su2)
end
def ann4 : Ann := ⟨[(13, ([26, 27], []))], [10, 28], 70, [(22, false), (24, false), (26, false), (23, false), (27, false), (25, false)], [10, 11, 12, 13], none, [], []⟩
def kb4_0 (b0 b1 b2 b3 : Nat) (x10 x11 x12 x13 : Value) : List KB := [⟨b0, true, 34, (aggArr x10)⟩, ⟨b1, true, 34, (aggArr x11)⟩, ⟨b2, true, 34, (aggArr x12)⟩, ⟨b3, true, 34, (aggArr x13)⟩]
def kb4_1 (b0 b1 b2 b3 b4 : Nat) (x10 x11 x12 x13 x19 x20 x21 x22 x23 : Value) : List KB := [⟨b0, true, 34, (aggArr x10)⟩, ⟨b1, true, 34, (aggArr x11)⟩, ⟨b2, true, 34, (aggArr x12)⟩, ⟨b3, true, 34, (aggArr x13)⟩, ⟨b4, true, 50, #[x19, x20, x21, x22, x23]⟩]
def kb4_2 (b0 b1 b2 b3 b4 b5 : Nat) (x10 x11 x12 x13 x19 x20 x21 x22 x23 x45 : Value) : List KB := [⟨b0, true, 34, (aggArr x10)⟩, ⟨b1, true, 34, (aggArr x11)⟩, ⟨b2, true, 34, (aggArr x12)⟩, ⟨b3, true, 34, (aggArr x13)⟩, ⟨b4, true, 50, #[x19, x20, x21, x22, x23]⟩, ⟨b5, true, 47, #[x45]⟩]
def kb4_3 (b0 b1 b2 b3 b4 b5 b6 : Nat) (x10 x11 x12 x13 x19 x20 x21 x22 x23 x45 x50 : Value) : List KB := [⟨b0, true, 34, (aggArr x10)⟩, ⟨b1, true, 34, (aggArr x11)⟩, ⟨b2, true, 34, (aggArr x12)⟩, ⟨b3, true, 34, (aggArr x13)⟩, ⟨b4, true, 50, #[x19, x20, x21, x22, x23]⟩, ⟨b5, true, 47, #[x45]⟩, ⟨b6, true, 47, #[x50]⟩]
theorem vc4 (X : Ctx) (β : Nat → Nat) (x0 x1 x2 x3 x4 x5 x6 x7 x8 : Value) : (run Tryd.prog ann4 4 [.x (.v 0), .x (.v 1), .x (.v 2), .x (.v 3), .x (.v 4), .x (.v 5), .x (.v 6), .x (.v 7), .x (.v 8)] [] [] 10).den X (env0 [x0, x1, x2, x3, x4, x5, x6, x7, x8] X.w0) 10 β 0 (fun _ _ _ => False) = (
  Ask (rAgg 4 x1) fun x10 =>
  AskNew X.w0 fun b0 =>
  Ask (rAgg 4 x2) fun x11 =>
  AskNew X.w0 fun b1 =>
  Ask (rAgg 4 x3) fun x12 =>
  AskNew X.w0 fun b2 =>
  Ask (rAgg 4 x4) fun x13 =>
  AskNew X.w0 fun b3 =>
  Ask (rBin X.P .and 3 false true x0 (J 7)) fun x14 =>
  AskW X X.w0 [] (kb4_0 b0 b1 b2 b3 x10 x11 x12 x13) false 22 [x14] fun x15 w15 =>
  Ask (rExt X.P x15 0) fun x16 =>
  Ask (rExt X.P x15 1) fun x17 =>
  AskNew w15 fun b4 =>
  Ask (rAgg 5 x16) fun x18 =>
  Ask (rSel (aggArr x18) 0 1 false) fun x19 =>
  Ask (rSel (aggArr x18) 1 1 false) fun x20 =>
  Ask (rSel (aggArr x18) 2 1 false) fun x21 =>
  Ask (rSel (aggArr x18) 3 1 false) fun x22 =>
  Ask (rSel (aggArr x18) 4 1 false) fun x23 =>
  AskW X w15 [b4] (kb4_1 b0 b1 b2 b3 b4 x10 x11 x12 x13 x19 x20 x21 x22 x23) false 23 [] fun x24 w24 =>
  Ask (rUn X.P .not x24) fun x25 =>
  AskG [(x25, false)] (rBin X.P .neq 3 false true x17 (J 0)) fun x26 =>
  Ask (rPick x25 (.bool true) x26) fun x27 =>
  AskG [(x27, false)] (rLen X.P 48 x22) fun x28 =>
  AskG [(x27, false)] (rBin X.P .neq 3 false false x28 x14) fun x29 =>
  Ask (rPick x27 (.bool true) x29) fun x30 =>
  AskG [(x30, false)] (rLen X.P 48 x23) fun x31 =>
  AskG [(x30, false)] (rBin X.P .neq 3 false false x31 x14) fun x32 =>
  Ask (rPick x30 (.bool true) x32) fun x33 =>
  (∃ t, x33 = .bool t) ∧ (x33 = .bool true →
    Ret X w24 [] [] (.bool false)) ∧ (x33 = .bool false →
    AskW X w24 [] (kb4_1 b0 b1 b2 b3 b4 x10 x11 x12 x13 x19 x20 x21 x22 x23) false 24 [(.agg #[x19, x20, x21, x22, x23]), x10, x12] fun x34 w34 =>
    AskW X w34 [] (kb4_1 b0 b1 b2 b3 b4 x10 x11 x12 x13 x19 x20 x21 x22 x23) false 24 [(.agg #[x19, x20, x21, x22, x23]), x11, x13] fun x35 w35 =>
    AskW X w35 [] (kb4_1 b0 b1 b2 b3 b4 x10 x11 x12 x13 x19 x20 x21 x22 x23) false 25 [x34, x35] fun x36 w36 =>
    AskF X 10 [x10, x11] fun x37 =>
    AskGF X [(x37, true)] 10 [x12, x13] fun x38 =>
    Ask (rPick x37 x38 (.bool false)) fun x39 =>
    Ask (rBin X.P .neq 4 false false x36 x39) fun x40 =>
    (∃ t, x40 = .bool t) ∧ (x40 = .bool true →
      Ret X w36 [] [] (.bool false)) ∧ (x40 = .bool false →
      AskW X w36 [] (kb4_1 b0 b1 b2 b3 b4 x10 x11 x12 x13 x19 x20 x21 x22 x23) false 26 [(.agg #[x19, x20, x21, x22, x23]), x5, x6, x12] fun x41 w41 =>
      Ask (rExt X.P x41 0) fun x42 =>
      Ask (rExt X.P x41 1) fun x43 =>
      AskNew w41 fun b5 =>
      Ask (rAgg 1 x42) fun x44 =>
      Ask (rSel (aggArr x44) 0 1 false) fun x45 =>
      AskW X w41 [b5] (kb4_2 b0 b1 b2 b3 b4 b5 x10 x11 x12 x13 x19 x20 x21 x22 x23 x45) false 26 [(.agg #[x19, x20, x21, x22, x23]), x7, x8, x13] fun x46 w46 =>
      Ask (rExt X.P x46 0) fun x47 =>
      Ask (rExt X.P x46 1) fun x48 =>
      AskNew w46 fun b6 =>
      Ask (rAgg 1 x47) fun x49 =>
      Ask (rSel (aggArr x49) 0 1 false) fun x50 =>
      Ask (rBin X.P .neq 3 false true x43 (J 0)) fun x51 =>
      AskG [(x51, false)] (rBin X.P .neq 3 false true x48 (J 0)) fun x52 =>
      Ask (rPick x51 (.bool true) x52) fun x53 =>
      (∃ t, x53 = .bool t) ∧ (x53 = .bool true →
        Ask (rBin X.P .eql 3 false true x43 (J 2)) fun x54 =>
        AskG [(x54, true)] (rLen X.P 25 x5) fun x55 =>
        AskG [(x54, true)] (rBin X.P .gtr 3 false false x55 x14) fun x56 =>
        AskG [(x54, true), (x56, false)] (rLen X.P 25 x6) fun x57 =>
        AskG [(x54, true), (x56, false)] (rBin X.P .gtr 3 false false x57 x14) fun x58 =>
        AskG [(x54, true)] (rPick x56 (.bool true) x58) fun x59 =>
        Ask (rPick x54 x59 (.bool false)) fun x60 =>
        AskG [(x60, false)] (rBin X.P .eql 3 false true x48 (J 2)) fun x61 =>
        AskG [(x60, false), (x61, true)] (rLen X.P 25 x7) fun x62 =>
        AskG [(x60, false), (x61, true)] (rBin X.P .gtr 3 false false x62 x14) fun x63 =>
        AskG [(x60, false), (x61, true), (x63, false)] (rLen X.P 25 x8) fun x64 =>
        AskG [(x60, false), (x61, true), (x63, false)] (rBin X.P .gtr 3 false false x64 x14) fun x65 =>
        AskG [(x60, false), (x61, true)] (rPick x63 (.bool true) x65) fun x66 =>
        AskG [(x60, false)] (rPick x61 x66 (.bool false)) fun x67 =>
        Ask (rPick x60 (.bool true) x67) fun x68 =>
        Ret X w46 [b6] [] x68) ∧ (x53 = .bool false →
        AskF X 10 [x12, x13] fun x54 =>
        ∃ (I0 : List Value → World → Prop) (μ0 : List Value → World → Nat), (∀ w, KnownV X w46 [b6] (kb4_3 b0 b1 b2 b3 b4 b5 b6 x10 x11 x12 x13 x19 x20 x21 x22 x23 x45 x50) w → I0 [x54, (J 0)] w) ∧ ∀ x55 x56 w57, I0 [x55, x56] w57 →
          Ask (rBin X.P .lss 3 false false x56 x14) fun x58 =>
          (∃ t, x58 = .bool t) ∧ (x58 = .bool true →
            AskGW X [(x55, true)] w57 [] (kb4_3 b0 b1 b2 b3 b4 b5 b6 x10 x11 x12 x13 x19 x20 x21 x22 x23 x45 x50) false 27 [x5, x56] fun x59 w59 =>
            AskGW X [(x55, true)] w59 [] (kb4_3 b0 b1 b2 b3 b4 b5 b6 x10 x11 x12 x13 x19 x20 x21 x22 x23 x45 x50) false 27 [x7, x56] fun x60 w60 =>
            AskGF X [(x55, true)] 10 [x59, x60] fun x61 =>
            Ask (rPick x55 x61 (.bool false)) fun x62 =>
            AskGW X [(x62, true)] w60 [] (kb4_3 b0 b1 b2 b3 b4 b5 b6 x10 x11 x12 x13 x19 x20 x21 x22 x23 x45 x50) false 27 [x6, x56] fun x63 w63 =>
            AskGW X [(x62, true)] w63 [] (kb4_3 b0 b1 b2 b3 b4 b5 b6 x10 x11 x12 x13 x19 x20 x21 x22 x23 x45 x50) false 27 [x8, x56] fun x64 w64 =>
            AskGF X [(x62, true)] 10 [x63, x64] fun x65 =>
            Ask (rPick x62 x65 (.bool false)) fun x66 =>
            Ask (rBin X.P .add 3 true false (J 3) x56) fun x67 =>
            AskW X w64 [] (kb4_3 b0 b1 b2 b3 b4 b5 b6 x10 x11 x12 x13 x19 x20 x21 x22 x23 x45 x50) false 27 [x45, x67] fun x68 w68 =>
            AskW X w68 [] (kb4_3 b0 b1 b2 b3 b4 b5 b6 x10 x11 x12 x13 x19 x20 x21 x22 x23 x45 x50) false 27 [x5, x56] fun x69 w69 =>
            AskF X 28 [x69] fun x70 =>
            Ask (rBin X.P .neq 34 false false x68 x70) fun x71 =>
            AskG [(x71, false)] (rBin X.P .add 3 true false (J 3) x14) fun x72 =>
            AskG [(x71, false)] (rBin X.P .add 3 false false x72 x56) fun x73 =>
            AskGW X [(x71, false)] w69 [] (kb4_3 b0 b1 b2 b3 b4 b5 b6 x10 x11 x12 x13 x19 x20 x21 x22 x23 x45 x50) false 27 [x45, x73] fun x74 w74 =>
            AskGW X [(x71, false)] w74 [] (kb4_3 b0 b1 b2 b3 b4 b5 b6 x10 x11 x12 x13 x19 x20 x21 x22 x23 x45 x50) false 27 [x6, x56] fun x75 w75 =>
            AskGF X [(x71, false)] 28 [x75] fun x76 =>
            AskG [(x71, false)] (rBin X.P .neq 34 false false x74 x76) fun x77 =>
            Ask (rPick x71 (.bool true) x77) fun x78 =>
            (∃ t, x78 = .bool t) ∧ (x78 = .bool true →
              Ret X w75 [] [] (.bool false)) ∧ (x78 = .bool false →
              Ask (rBin X.P .add 3 false true x56 (J 1)) fun x79 =>
              Again X w75 [] [] fun w => I0 [x66, x79] w ∧ μ0 [x66, x79] w < μ0 [x55, x56] w57)) ∧ (x58 = .bool false →
            AskW X w57 [] (kb4_3 b0 b1 b2 b3 b4 b5 b6 x10 x11 x12 x13 x19 x20 x21 x22 x23 x45 x50) false 25 [(.agg #[x45]), (.agg #[x50])] fun x59 w59 =>
            Ask (rBin X.P .eql 4 false false x59 x55) fun x60 =>
            AskGW X [(x60, true)] w59 [] (kb4_3 b0 b1 b2 b3 b4 b5 b6 x10 x11 x12 x13 x19 x20 x21 x22 x23 x45 x50) false 27 [x45, (J 1)] fun x61 w61 =>
            AskGF X [(x60, true)] 28 [x12] fun x62 =>
            AskG [(x60, true)] (rBin X.P .eql 34 false false x61 x62) fun x63 =>
            Ask (rPick x60 x63 (.bool false)) fun x64 =>
            Ret X w61 [] [] x64))))) := by kernel_rfl
theorem keepsGB : Keeps1 Tryd.prog GT 4 cGB := by
  refine keepsW (T := Tgb) (A := ann4) hMix keepTgb hGT (calls_of (by kernel_rfl)) (callsW_of (by kernel_rfl)) fun args ⟨sz0, v, v2, f, f2, la, lb1, lc, ld, _⟩ w0 hrd hpre hg => ?_
  obtain ⟨_, _, rfl, rfl, _, _, rfl, ⟨rfl, hv⟩, _, _, rfl, ⟨rfl, hv2⟩, _, _, rfl, ⟨rfl, hf⟩, _, _, rfl, ⟨rfl, hf2⟩, xa, _, rfl, ha, xb, _, rfl, hb, xc, _, rfl, hc, xd, _, rfl, hd, rfl⟩ := hrd
  dsimp only at hv hv2 hf hf2 ha hb hc hd
  replace ha : Ls encS okS w0 xa la := ha
  replace hb : Ls encS okS w0 xb lb1 := hb
  replace hc : Ls encS okS w0 xc lc := hc
  replace hd : Ls encS okS w0 xd ld := hd
  refine ⟨[.x (.v 0), .x (.v 1), .x (.v 2), .x (.v 3), .x (.v 4), .x (.v 5), .x (.v 6), .x (.v 7), .x (.v 8)], [], [], 10, env0 [.int .i64 sz0, S v, S v2, S f, S f2, xa, xb, xc, xd] w0, fun b => b, 0, rfl, rfl, fun X hX => mem_none hX rfl, fun X hP hS hw hX hR => ?_⟩
  subst hw; try dsimp only at hR
  rw [vc4 X]
  have yes : ∀ u ow bl, Ret X u ow bl (.bool true) := fun u ow bl => hR _ _ _ _ fun _ _ => rfl
  rw [ask_aggS]; intro b0 hb0
  rw [ask_aggS]; intro b1 hb1
  rw [ask_aggS]; intro b2 hb2
  rw [ask_aggS]; intro b3 hb3
  rw [ask_and]
  obtain ⟨n, hn, en⟩ := and7 sz0
  rw [en]
  refine call_W hX hS (T := Tgb) (f := 22) rfl ((n : Int), ()) (fun w hw => ⟨⟨_, _, rfl, rfl, rfl⟩, trivial⟩) fun v15 w15 w15' h15 k15 s15 su15 hv15 => ?_
  obtain ⟨x, y, z, g, h, vs, us, rfl, hg, hh, hF⟩ := hv15.2 n rfl (by omega)
  rw [ask_ext (v := .agg #[x, y, z, g, h]) rfl, ask_ext (v := J 0) rfl]
  intro b4 hb4
  refine a_agg (cs := [x, y, z, g, h]) rfl (by simp [own_one hF.1, own_one hF.2.1, own_one hF.2.2.1, slAt_one hg, slAt_one hh]) ?_
  iterate 5 refine a_sel1 rfl ?_
  refine call_W hX hS (T := Tgb) (f := 23) rfl () (fun w hw => ⟨rfl, trivial⟩) fun v24 w24 w24' h24 k24 s24 su24 hv24 => ?_
  obtain rfl := hv24
  rw [ask_not, Bool.not_true]
  refine a_G_on condsV1 ?_
  rw [ask_neqN, decide_eq_true rfl, Bool.not_true, ask_pickF]
  refine a_G_on condsV1 (a_len hP tyFree hg ?_)
  refine a_G_on condsV1 ?_
  rw [ask_neqN, decide_eq_true rfl, Bool.not_true, ask_pickF]
  refine a_G_on condsV1 (a_len hP tyFree hh ?_)
  refine a_G_on condsV1 ?_
  rw [ask_neqN, decide_eq_true rfl, Bool.not_true, ask_pickF]
  refine a_if (fun h => by cases h) fun _ => ?_
  -- the set, from here on
  have rdx : ∀ {w}, Stp [] w24' w → Ls encS okS w x (unitL 0) := fun hs => (show Ls encS okS w24' x (unitL 0) from Uw.rd (own_stp hF.1 su24 (own_off hF.1 (all1 hb4)))).stp0 hs
  have rdy : ∀ {w}, Stp [] w24' w → Ls encS okS w y (unitL 1) := fun hs => (show Ls encS okS w24' y (unitL 1) from Uw.rd (own_stp hF.2.1 su24 (own_off hF.2.1 (all1 hb4)))).stp0 hs
  have hvl : vs.length = n := hF.2.2.2.1
  have hul : us.length = n := hF.2.2.2.2.1
  have off4 : ∀ {v : Value} {xs : List Value}, SlAt w15' v n xs → SlAt w24' v n xs := fun h => h.stp3 su24 fun b _ hlt hm => by simp at hm; omega
  have unl : ∀ c, (unitsL c n).length = n := fun c => by simp [unitsL]
  have ung : ∀ {c i : Nat} {l : List Nat}, (unitsL c n)[i]? = some l → l = unitL (c + i) := fun {c i l} hl => by
    unfold unitsL at hl
    rw [List.getElem?_map] at hl
    cases hr : (List.range n)[i]? with
    | none => rw [hr] at hl; cases hl
    | some j =>
      rw [hr] at hl
      simp only [Option.map_some, Option.some.injEq] at hl
      have hi := (List.getElem?_eq_some_iff.1 hr).1
      rw [List.getElem?_range (by simpa using hi)] at hr
      simp only [Option.some.injEq] at hr
      subst hr; exact hl.symm
  have rdg : ∀ {w}, Stp [] w24' w → (cLL cLS).rd w g (unitsL 3 n) := fun hs => ⟨vs, by rw [unl]; exact (off4 hg).stp0 hs, by rw [unl]; exact hvl, fun i q l hq hl => by
    have hu := hF.2.2.2.2.2.1 i q hq
    rw [ung hl]
    exact (show Ls encS okS w24' q _ from Uw.rd (own_stp hu su24 (own_off hu (all1 hb4)))).stp0 hs⟩
  have rdh : ∀ {w}, Stp [] w24' w → (cLL cLS).rd w h (unitsL (3 + n) n) := fun hs => ⟨us, by rw [unl]; exact (off4 hh).stp0 hs, by rw [unl]; exact hul, fun i q l hq hl => by
    have hu := hF.2.2.2.2.2.2.1 i q hq
    rw [ung hl]
    exact (show Ls encS okS w24' q _ from Uw.rd (own_stp hu su24 (own_off hu (all1 hb4)))).stp0 hs⟩
  have oz : z.oneCell' = true := own_one hF.2.2.1
  have ox : x.oneCell' = true := own_one hF.1
  have og := slAt_one hg
  have oh := slAt_one hh
  have lenU : ∀ {c : Nat} {l : List Nat}, c ≤ 64 → l ∈ unitsL c n → l.length ≤ 4194304 := fun {c l} hc hl => by
    obtain ⟨i, hi, rfl⟩ := List.mem_map.1 hl
    rw [unit_len]
    have := List.mem_range.1 hi
    omega
  have plainB : ∀ ts : List (Nat × List Nat), (∀ t ∈ ts, t.2.length ≤ 4194304) → (plainF ts).length ≤ 4194304 := fun ts h => plainF_len ts h [] (by simp)
  have okP : ∀ ts : List (Nat × List Nat), ∀ q ∈ plainF ts, okS q := fun ts q hq => Nat.lt_trans (plainF_lt ts [] (fun _ h => by cases h) q hq) (by decide)
  refine call_W hX hS (T := Tgb) (f := 24) rfl (unitL 0, unitL 1, v, f) (fun w hw => ⟨⟨x, y, z, g, h, rfl, ⟨oz, og, oh⟩, rdx hw.stp, rdy hw.stp, hv, hf⟩, by rw [unit_len]; decide, by rw [unit_len]; decide⟩) fun v34 w34 w34' h34 k34 s34 su34 t34 => ?_
  obtain ⟨y34, rfl, o34⟩ := t34
  dsimp only at o34
  refine call_W hX hS (T := Tgb) (f := 24) rfl (unitL 0, unitL 1, v2, f2) (fun w hw => ⟨⟨x, y, z, g, h, rfl, ⟨oz, og, oh⟩, rdx (su34.trans0 hw.stp), rdy (su34.trans0 hw.stp), hv2, hf2⟩, by rw [unit_len]; decide, by rw [unit_len]; decide⟩) fun v35 w35 w35' h35 k35 s35 su35 t35 => ?_
  obtain ⟨y35, rfl, o35⟩ := t35
  dsimp only at o35
  have cmB : ∀ a b, (plainF [(a, unitL 0), (b, unitL 1)]).length ≤ 4194304 := fun a b => plainB _ fun t ht => by
    simp only [List.mem_cons, List.not_mem_nil, or_false] at ht
    rcases ht with rfl | rfl <;> (rw [unit_len]; decide)
  refine call_W hX hS (T := Tgb) (f := 25) rfl (plainF [(v, unitL 0), (f, unitL 1)], plainF [(v2, unitL 0), (f2, unitL 1)]) (fun w hw => ⟨⟨y34, y35, rfl, ⟨((own_slAt o34).stp0 su35).stp0 hw.stp, okP _⟩, ⟨(own_slAt o35).stp0 hw.stp, okP _⟩⟩, cmB _ _, cmB _ _⟩) fun v36 w36 w36' h36 k36 s36 su36 hv36 => ?_
  obtain ⟨t, rfl, ht⟩ := hv36
  dsimp only at ht
  rw [same_cm] at ht
  have S36 : Stp [] w24' w36' := su34.trans0 (su35.trans0 su36)
  refine call_PE hS (T := Tgb) (f := 10) rfl (v, v2) ⟨hv, hv2⟩ ?_
  have step1 : ∀ Q : Value → Prop, Q (.bool t) → AskGF X [(.bool (decide (v % lN = v2 % lN)), true)] 10 [S f, S f2] fun x38 => Ask (rPick (.bool (decide (v % lN = v2 % lN))) x38 (.bool false)) Q := fun Q hQ => by
    by_cases e : v % lN = v2 % lN
    · rw [decide_eq_true e]
      refine a_GF_on condsV1 (call_PE hS (T := Tgb) (f := 10) rfl (f, f2) ⟨hf, hf2⟩ ?_)
      rw [ask_pickT]
      have : decide (f % lN = f2 % lN) = t := by rw [Bool.eq_iff_iff, decide_eq_true_iff, ht]; simp [e]
      dsimp only
      rw [this]; exact hQ
    · rw [decide_eq_false e]
      refine a_GF_off (condsV1_not (by decide)) fun _ => ?_
      rw [ask_pickF]
      have : false = t := by cases t with | false => rfl | true => exact absurd (ht.1 rfl).1 e
      rw [this]; exact hQ
  refine step1 _ ?_
  refine a_neqBoolG hP ?_
  rw [bne_self_eq_false]
  refine a_if (fun h => by cases h) fun _ => ?_
  -- the commitments of lists
  have haK : ∀ w, Kn X w → Ls encS okS w xa la := fun w hk => ha.stp0 (hk.stp0 hX)
  have hbK : ∀ w, Kn X w → Ls encS okS w xb lb1 := fun w hk => hb.stp0 (hk.stp0 hX)
  have hcK : ∀ w, Kn X w → Ls encS okS w xc lc := fun w hk => hc.stp0 (hk.stp0 hX)
  have hdK : ∀ w, Kn X w → Ls encS okS w xd ld := fun w hk => hd.stp0 (hk.stp0 hX)
  have preC : 1 + (unitsL 3 n).length + (unitsL (3 + n) n).length < 24 := by rw [unl, unl]; omega
  have z24 := S36.size
  refine call_W hX hS (T := Tgb) (f := 26) rfl (⟨unitL 1, unitsL 3 n, unitsL (3 + n) n, la, lb1, f⟩ : CvA) (fun w hw => ⟨⟨x, y, z, g, h, xa, xb, rfl, ⟨ox, oz⟩, rdy (S36.trans0 hw.stp), rdg (S36.trans0 hw.stp), rdh (S36.trans0 hw.stp), haK _ hw.kn, hbK _ hw.kn, hf⟩, preC, by rw [unit_len]; decide, fun l hl => lenU (by omega) hl, fun l hl => lenU (by omega) hl⟩) fun v41 w41 w41' h41 k41 s41 su41 hv41 => ?_
  dsimp only at hv41
  rw [unl, unl] at hv41
  have S41 : Stp [] w24' w41' := S36.trans0 su41
  have z41 := su41.size
  have second : ∀ (b5 : Nat) (bl : List KB) (K : Value → World → Prop), w41'.heap.size ≤ b5 →
      (∀ v46 w46', Kn X w46' → Stp [b5] w41' w46' → ((n < lc.length ∨ n < ld.length) → v46 = .tuple #[.agg #[.slice none 0 0], J 2]) → (¬ (n < lc.length ∨ n < ld.length) → ∃ q, v46 = .tuple #[.agg #[q], J 0] ∧ Ls encS okS w46' q (cvP n lc ld f2)) → K v46 w46') →
      AskW X w41' [b5] bl false 26 [.agg #[x, y, z, g, h], xc, xd, S f2] K := fun b5 bl K hb5 hK => by
    have st : ∀ {w}, Stp [b5] w41' w → Stp [] w24' w := fun hs => (S41.trans hs).drop fun b hb => by simp at hb; have := S41.size; omega
    refine call_W hX hS (T := Tgb) (f := 26) rfl (⟨unitL 1, unitsL 3 n, unitsL (3 + n) n, lc, ld, f2⟩ : CvA) (fun w hw => ⟨⟨x, y, z, g, h, xc, xd, rfl, ⟨ox, oz⟩, rdy (st hw.stp), rdg (st hw.stp), rdh (st hw.stp), hcK _ hw.kn, hdK _ hw.kn, hf2⟩, preC, by rw [unit_len]; decide, fun l hl => lenU (by omega) hl, fun l hl => lenU (by omega) hl⟩) fun v46 w46 w46' h46 k46 s46 su46 hv46 => ?_
    dsimp only at hv46
    rw [unl, unl] at hv46
    exact hK v46 w46' k46 su46 hv46.1 fun hb => by
      obtain ⟨q, hq, o⟩ := hv46.2 hb
      exact ⟨q, hq, own_slAt o, okP _⟩
  by_cases bA : n < la.length ∨ n < lb1.length
  · obtain rfl := hv41.1 bA
    rw [ask_ext (v := .agg #[.slice none 0 0]) rfl, ask_ext (v := J 2) rfl]
    intro b5 hb5
    refine a_agg (cs := [.slice none 0 0]) rfl rfl (a_sel1 rfl ?_)
    refine second _ _ _ hb5 fun v46 w46' k46 su46 hv1 hv2 => ?_
    have form : ∃ q e, v46 = .tuple #[.agg #[q], J e] ∧ q.oneCell' = true := by
      by_cases bB : n < lc.length ∨ n < ld.length
      · exact ⟨_, _, hv1 bB, rfl⟩
      · obtain ⟨q, hq, hl⟩ := hv2 bB
        exact ⟨q, 0, hq, slAt_one hl.1⟩
    obtain ⟨q, e, rfl, oq⟩ := form
    rw [ask_ext (v := .agg #[q]) rfl, ask_ext (v := J e) rfl]
    intro b6 hb6
    refine a_agg (cs := [q]) rfl (by simp [oq]) (a_sel1 rfl ?_)
    rw [ask_neqN, decide_eq_false (by decide), Bool.not_false]
    refine a_G_off (condsV1_not (by decide)) fun _ => ?_
    rw [ask_pickT]
    refine a_if (fun _ => ?_) fun h => by cases h
    rw [ask_eqlN, decide_eq_true rfl]
    refine a_G_on condsV1 (a_len hP tyS' ha.1 ?_)
    refine a_G_on condsV1 ?_
    rw [ask_gtrN]
    have rest : ∀ (K : Value → Prop), K (.bool true) → AskG [(.bool true, true), (.bool (decide (n < la.length)), false)] (rLen X.P 25 xb) fun x57 => AskG [(.bool true, true), (.bool (decide (n < la.length)), false)] (rBin X.P .gtr 3 false false x57 (J n)) fun x58 => AskG [(.bool true, true)] (rPick (.bool (decide (n < la.length))) (.bool true) x58) K := fun K hK => by
      by_cases hA : n < la.length
      · rw [decide_eq_true hA]
        iterate 2 refine a_G_off (condsNot (a := true) (b := false) (by simp) (by decide)) fun _ => ?_
        refine a_G_on condsV1 ?_
        rw [ask_pickT]; exact hK
      · rw [decide_eq_false hA]
        refine a_G_on condsV2G (a_len hP tyS' hb.1 ?_)
        refine a_G_on condsV2G ?_
        rw [ask_gtrN, decide_eq_true (bA.resolve_left hA)]
        refine a_G_on condsV1 ?_
        rw [ask_pickF]; exact hK
    refine rest _ ?_
    rw [ask_pickT]
    iterate 7 refine a_G_off (condsNot (a := true) (b := false) List.mem_cons_self (by decide)) fun _ => ?_
    rw [ask_pickT]
    exact yes _ _ _
  obtain ⟨y41, rfl, o41⟩ := hv41.2 bA
  rw [ask_ext (v := .agg #[y41]) rfl, ask_ext (v := J 0) rfl]
  intro b5 hb5
  refine a_agg (cs := [y41]) rfl (by simp [own_one o41]) (a_sel1 rfl ?_)
  refine second _ _ _ hb5 fun v46 w46' k46 su46 hv1 hv2 => ?_
  by_cases bB : n < lc.length ∨ n < ld.length
  · obtain rfl := hv1 bB
    rw [ask_ext (v := .agg #[.slice none 0 0]) rfl, ask_ext (v := J 2) rfl]
    intro b6 hb6
    refine a_agg (cs := [.slice none 0 0]) rfl rfl (a_sel1 rfl ?_)
    rw [ask_neqN, decide_eq_true rfl, Bool.not_true]
    refine a_G_on condsV1 ?_
    rw [ask_neqN, decide_eq_false (by decide), Bool.not_false, ask_pickF]
    refine a_if (fun _ => ?_) fun h => by cases h
    rw [ask_eqlN, decide_eq_false (by decide)]
    iterate 5 refine a_G_off (condsNot (a := false) (b := true) List.mem_cons_self (by decide)) fun _ => ?_
    rw [ask_pickF]
    refine a_G_on condsV1 ?_
    rw [ask_eqlN, decide_eq_true rfl]
    refine a_G_on condsV2G (a_len hP tyS' hc.1 ?_)
    refine a_G_on condsV2G ?_
    rw [ask_gtrN]
    have rest : ∀ (K : Value → Prop), K (.bool true) → AskG [(.bool false, false), (.bool true, true), (.bool (decide (n < lc.length)), false)] (rLen X.P 25 xd) fun x57 => AskG [(.bool false, false), (.bool true, true), (.bool (decide (n < lc.length)), false)] (rBin X.P .gtr 3 false false x57 (J n)) fun x58 => AskG [(.bool false, false), (.bool true, true)] (rPick (.bool (decide (n < lc.length))) (.bool true) x58) K := fun K hK => by
      by_cases hA : n < lc.length
      · rw [decide_eq_true hA]
        iterate 2 refine a_G_off (condsNot (a := true) (b := false) (by simp) (by decide)) fun _ => ?_
        refine a_G_on condsV2G ?_
        rw [ask_pickT]; exact hK
      · rw [decide_eq_false hA]
        refine a_G_on condsV3G (a_len hP tyS' hd.1 ?_)
        refine a_G_on condsV3G ?_
        rw [ask_gtrN, decide_eq_true (bB.resolve_left hA)]
        refine a_G_on condsV2G ?_
        rw [ask_pickF]; exact hK
    refine rest _ ?_
    refine a_G_on condsV1 ?_
    rw [ask_pickT, ask_pickF]
    exact yes _ _ _
  obtain ⟨y46, rfl, L46⟩ := hv2 bB
  have lA : la.length ≤ n := by omega
  have lB : lb1.length ≤ n := by omega
  have lC : lc.length ≤ n := by omega
  have lD : ld.length ≤ n := by omega
  have L41 : Ls encS okS w46' y41 (cvP n la lb1 f) := ⟨(own_slAt o41).stp su46 (own_off o41 (all1 hb5)), okP _⟩
  have z46 := su46.size
  rw [ask_ext (v := .agg #[y46]) rfl, ask_ext (v := J 0) rfl]
  intro b6 hb6
  refine a_agg (cs := [y46]) rfl (by simp [slAt_one L46.1]) (a_sel1 rfl ?_)
  rw [ask_neqN, decide_eq_true rfl, Bool.not_true]
  refine a_G_on condsV1 ?_
  rw [ask_neqN, decide_eq_true rfl, Bool.not_true, ask_pickF]
  refine a_if (fun h => by cases h) fun _ => ?_
  refine call_PE hS (T := Tgb) (f := 10) rfl (f, f2) ⟨hf, hf2⟩ ?_
  have okX : ∀ a b k, ∀ q ∈ cvP n a b k, okS q := fun a b k => okP _
  have okx : ∀ a b k j, (cvP n a b k).getD j 0 < W256 := fun a b k j => getD_okG (okX a b k) j
  have mlt : ∀ q, q % lN < W256 := fun q => Nat.lt_trans (Nat.mod_lt _ (by decide)) (by decide)
  refine ⟨fun a w => ∃ (k : Nat) (t0 : Bool), a = [.bool t0, J k] ∧ k ≤ n ∧ Kn X w ∧ (t0 = true ↔ f % lN = f2 % lN ∧ ∀ i, i < k → la.getD i 0 % lN = lc.getD i 0 % lN ∧ lb1.getD i 0 % lN = ld.getD i 0 % lN) ∧ Ls encS okS w y41 (cvP n la lb1 f) ∧ Ls encS okS w y46 (cvP n lc ld f2), fun a _ => match a with | [_, k] => n - intNat k | _ => 0,
    fun w hw => ⟨0, _, rfl, Nat.zero_le _, hw.kn, ?_, ⟨L41.1.stp3 hw.stp fun b _ hlt hm => by simp at hm; omega, L41.2⟩, ⟨L46.1.stp3 hw.stp fun b _ hlt hm => by simp at hm; omega, L46.2⟩⟩, ?_⟩
  · rw [decide_eq_true_iff]
    exact ⟨fun h => ⟨h, fun i hi => absurd hi (Nat.not_lt_zero _)⟩, fun h => h.1⟩
  rintro _ _ w ⟨k, t0, he, hk, kw, ht0, M41, M46⟩
  simp only [List.cons.injEq, and_true] at he
  obtain ⟨rfl, rfl⟩ := he
  rw [ask_lssN]
  refine a_ifD (fun hlt => ?_) fun hge => ?_
  · refine gb_pair hX hS kw haK hcK (k := k) fun t1 w1 ht1 k1 s1 => ?_
    refine gb_pair hX hS k1 hbK hdK (k := k) fun t2 w2 ht2 k2 s2 => ?_
    have s12 := s1.trans0 s2
    rw [ask_addN (by omega)]
    refine call_W hX hS (T := Tgb) (f := 27) rfl (cvP n la lb1 f, 3 + k) (fun w3 hw => ⟨⟨_, rfl, M41.stp0 (s12.trans0 hw.stp)⟩, trivial⟩) fun v3 w3 w3' h3 k3 s3 su3 hv3 => ?_
    subst hv3
    refine call_W hX hS (T := Tgb) (f := 27) rfl (la, k) (fun w3 hw => ⟨⟨_, rfl, haK _ hw.kn⟩, trivial⟩) fun v4 w4 w4' h4 k4 s4 su4 hv4 => ?_
    subst hv4
    refine call_PE hS (T := Tgb) (f := 28) rfl (la.getD k 0) (getD_okG (haK _ kw).2 k) ?_
    rw [ask_neqS (hP ▸ a4S) (okx _ _ _ _) (mlt _), decide_eq_true (cvP_a n la lb1 f k lA lB hlt), Bool.not_true]
    refine a_G_on condsV1 ?_
    rw [ask_addN (by omega)]
    refine a_G_on condsV1 ?_
    rw [ask_addN (by omega)]
    refine a_GW_on condsV1 (call_W hX hS (T := Tgb) (f := 27) rfl (cvP n la lb1 f, 3 + n + k) (fun w5 hw => ⟨⟨_, rfl, M41.stp0 (s12.trans0 (su3.trans0 (su4.trans0 hw.stp)))⟩, trivial⟩) fun v5 w5 w5' h5 k5 s5 su5 hv5 => ?_)
    subst hv5
    refine a_GW_on condsV1 (call_W hX hS (T := Tgb) (f := 27) rfl (lb1, k) (fun w6 hw => ⟨⟨_, rfl, hbK _ hw.kn⟩, trivial⟩) fun v6 w6 w6' h6 k6 s6 su6 hv6 => ?_)
    subst hv6
    refine a_GF_on condsV1 (call_PE hS (T := Tgb) (f := 28) rfl (lb1.getD k 0) (getD_okG (hbK _ kw).2 k) ?_)
    refine a_G_on condsV1 ?_
    rw [ask_neqS (hP ▸ a4S) (okx _ _ _ _) (mlt _), decide_eq_true (cvP_b n la lb1 f k lA lB hlt), Bool.not_true, ask_pickF]
    refine a_if (fun h => by cases h) fun _ => ?_
    rw [ask_succ (by omega)]
    intro w7 hw7
    have sA := s12.trans0 (su3.trans0 (su4.trans0 (su5.trans0 (su6.trans0 hw7.stp))))
    refine ⟨⟨k + 1, t2, rfl, hlt, hw7.kn, ?_, M41.stp0 sA, M46.stp0 sA⟩, by simp [intNat]; omega⟩
    rw [ht2, ht1, ht0]
    constructor
    · rintro ⟨⟨⟨h1, h2⟩, h3⟩, h4⟩
      refine ⟨h1, fun i hi => ?_⟩
      rcases Nat.lt_succ_iff_lt_or_eq.1 hi with h | rfl
      · exact h2 i h
      · exact ⟨h3, h4⟩
    · rintro ⟨h1, h2⟩
      exact ⟨⟨⟨h1, fun i hi => h2 i (by omega)⟩, (h2 k (by omega)).1⟩, (h2 k (by omega)).2⟩
  · obtain rfl : k = n := by omega
    have cvB : ∀ a b q, (cvP k a b q).length ≤ 4194304 := fun a b q => plainB _ fun t ht => by
      simp only [cvT, List.mem_cons, List.mem_append] at ht
      rcases ht with rfl | ht | ht
      · rw [unit_len]; decide
      · exact lenU (by omega) (List.of_mem_zip ht).2
      · exact lenU (by omega) (List.of_mem_zip ht).2
    refine call_W hX hS (T := Tgb) (f := 25) rfl (cvP k la lb1 f, cvP k lc ld f2) (fun w3 hw => ⟨⟨_, _, rfl, M41.stp0 hw.stp, M46.stp0 hw.stp⟩, cvB _ _ _, cvB _ _ _⟩) fun v3 w3 w3' h3 k3 s3 su3 hv3 => ?_
    obtain ⟨tt, rfl, htt⟩ := hv3
    dsimp only at htt
    rw [same_cv k la lb1 lc ld f f2 lA lB lC lD] at htt
    have e : tt = t0 := by rw [Bool.eq_iff_iff, htt, ht0]
    refine a_eqlBoolG hP ?_
    rw [e, beq_self_eq_true]
    refine a_GW_on condsV1 (call_W hX hS (T := Tgb) (f := 27) rfl (cvP k la lb1 f, 1) (fun w5 hw => ⟨⟨_, rfl, M41.stp0 (su3.trans0 hw.stp)⟩, trivial⟩) fun v5 w5 w5' h5 k5 s5 su5 hv5 => ?_)
    subst hv5
    refine a_GF_on condsV1 (call_PE hS (T := Tgb) (f := 28) rfl f hf ?_)
    refine a_G_on condsV1 ?_
    rw [ask_eqlS (hP ▸ a4S) (okx _ _ _ _) (mlt _), decide_eq_true (cvP_1 k la lb1 f lA lB), ask_pickT]
    exact yes _ _ _
#print axioms keepsGB
end Go.Vc
