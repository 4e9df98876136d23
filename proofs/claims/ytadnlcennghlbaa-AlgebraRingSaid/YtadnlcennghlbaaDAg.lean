/-
  The law AlgebraRing: what a ring without a field's inverses fulfils.
-/
import Derived.Test.YtadnlcennghlbaaDAd
import Derived.Test.YtadnlcennghlbaaDAf
namespace Go.Vc
open Go Go.Proofs Go.RowKit
/-! ### in plain words -/
namespace Rg
section
variable {A : Type} (R : Rg A) {m : Nat} [NeZero m] {φ : A → Rm m} (h : R.Hom φ)
include h
theorem law1 (p q : List A) (x : A) : φ (R.eval (R.product p q) x) = φ (R.mul (R.eval p x) (R.eval q x)) := by rw [R.product_hom h, h.mul]
theorem inner_hom (a b : List A) : φ (R.inner a b) = sumR (fun i => φ (a.getD i R.zero) * φ (b.getD i R.zero)) a.length := R.inn_hom h a b _
theorem law2 (p : List A) (x : A) : φ (R.inner (tabN (R.pw x) p.length) p) = φ (R.eval p x) := by
  rw [R.inner_hom h, R.eval_hom h, tabN_len]
  refine sumR_congr _ fun i hi => ?_
  rw [tabN_get _ _ hi, R.pw_hom h]
  grind
theorem law3 (p l : List A) (x : A) (hl : l.length = p.length) : φ (R.inner (tabN (R.mix x p R.one l) p.length) p) = φ (R.add (R.mul x (R.inner p p)) (R.inner l p)) := by
  rw [h.add, h.mul, R.inner_hom h, R.inner_hom h p p, R.inner_hom h l p, tabN_len, hl, ← sumR_mulL, ← sumR_add]
  refine sumR_congr _ fun i hi => ?_
  rw [tabN_get _ _ hi, mix, h.add, h.mul, h.mul, h.one]
  grind
end
end Rg
theorem pz {a b : Z2} (h5 : fi5 a = fi5 b) (h7 : fi7 a = fi7 b) : pZero (pR.sub a b) = true := by
  refine pZero_of ?_ ?_
  · rw [hom5.sub, h5]; grind
  · rw [hom7.sub, h7]; grind
/-! ### lists of whole numbers -/
def encI (a : Int) : List Value := [.int .i64 a]
theorem encI_len (a : Int) : (encI a).length = 1 := rfl
theorem encI_inj {p q : Int} (h : encI p = encI q) : p = q := by simpa [encI] using h
def cLI : Cod (List Int) := cL encI (fun _ => True) 1 encI_len (fun _ _ _ _ h => encI_inj h)
def LsI (w : World) (v : Value) (l : List Int) : Prop := Ls encI (fun _ => True) w v l
theorem tyI : ElTy Try.prog 22 3 1 8 (J 0) := ⟨by kernel_rfl, by kernel_rfl⟩
theorem aggI : agg? Try.prog 3 = some false := by kernel_rfl
theorem a_andA {c d : Bool} {R : Value → Prop} {K : Value → Prop} (h : c = true → ∀ K' : Value → Prop, K' (.bool d) → Ask R K') (hK : K (.bool (c && d))) : AskG [(.bool c, true)] R fun x => Ask (rPick (.bool c) x (.bool false)) K := by
  cases c
  · refine a_G_off (condsV1_not (by decide)) fun _ => ?_
    rw [ask_pickF]; exact hK
  · refine a_G_on condsV1 (h rfl _ ?_)
    rw [ask_pickT]; exact hK
section
variable {X : Ctx} {u : World} {v : Value} {l : List Int} {i : Nat} {ow : List Nat} {K : Value → Prop}
theorem ld_I (hP : X.P = Try.prog) (hk : Kn X u) (h : LsI u v l) (hi : i < l.length) (how : ∀ b, v.ownBlock = some b → b ∉ ow)
    (hK : K (.int .i64 (l.getD i 0))) : Ask (rIad X.P 22 v (J i)) fun p => Ask (rLoad X u ow 3 p) K := by
  refine a_iadN hP tyI h.1 hi ?_
  refine a_load_one (c := .int .i64 l[i]) hk h.1 (by rw [hP]; exact aggI) how ?_ ?_
  · have := flat_at encI_len l i _ (List.getElem?_eq_getElem hi) 0 (.int .i64 l[i]) rfl
    simpa using this
  · rw [getD_lt _ hi] at hK; exact hK
end
/-! ### pairs -/
def ann12 : Ann := ⟨[(3, ([3, 4], []))], [], 70, [], [], none, [], []⟩
theorem vc12 (X : Ctx) (β : Nat → Nat) (x0 : Value) : (run Try.prog ann12 12 [.x (.v 0)] [] [] 2).den X (env0 [x0] X.w0) 2 β 0 (fun _ _ _ => False) = (
 ∃ (I0 : List Value → World → Prop) (μ0 : List Value → World → Nat), (∀ w, KnownV X X.w0 [] [] w → I0 [(.slice none 0 0), (J 0)] w) ∧ ∀ x2 x3 w4, I0 [x2, x3] w4 →
 Ask (rLen X.P 22 x0) fun x5 =>
 Ask (rBin X.P .lss 3 false false x3 x5) fun x6 =>
 AskG [(x6, true)] (rBin X.P .lss 3 false true x3 (J 40)) fun x7 =>
 Ask (rPick x6 x7 (.bool false)) fun x8 =>
 (∃ t, x8 = .bool t) ∧ (x8 = .bool true →
 Ask (rIad X.P 22 x0 x3) fun x9 =>
 Ask (rLoad X w4 [] 3 x9) fun x10 =>
 Ask (rBin X.P .rem 3 false true x10 (J 35)) fun x11 =>
 Ask (rIad X.P 22 x0 x3) fun x12 =>
 Ask (rLoad X w4 [] 3 x12) fun x13 =>
 Ask (rBin X.P .rem 3 false true x13 (J 35)) fun x14 =>
 Ask (rPlain x11) fun x15 =>
 Ask (rPlain x14) fun x16 =>
 AskO X w4 [] [] false (Op.buildSlice 37 1 #[(0, Operand.tmp 26)]) 37 [(26, (.agg #[x15, x16]))] fun x17 w17 =>
 AskO X w17 [] [] true (appOp (.tmp 15) (.tmp 27) 37) 37 [(15, x2), (27, x17)] fun x18 w18 =>
 Ask (rBin X.P .add 3 false true x3 (J 1)) fun x19 =>
 Again X w18 [] [] fun w => I0 [x18, x19] w ∧ μ0 [x18, x19] w < μ0 [x2, x3] w4) ∧ (x8 = .bool false →
 Ret X w4 [] [] x2)) := by kernel_rfl
def prA (l : List Int) (i : Nat) : Z2 := ((l.getD i 0).tmod 35, (l.getD i 0).tmod 35)
def pairsA (l : List Int) : List Z2 := tabN (prA l) (min 40 l.length)
theorem pairsA_len (l : List Int) : (pairsA l).length ≤ 40 := by rw [pairsA, tabN_len]; omega
def cPai : Contract := fnW (Cods.cons cLI Cods.nil) (fun _ _ => True) (fun p w v w' => w'.ownsRow w.heap.size 40 2 v (pairsA p.1).length ((pairsA p.1).flatMap encPr))
theorem keepsPai : Keeps1 Try.prog GA 12 cPai := by
  refine keepsW (T := TA0) (A := ann12) hMix keepTA0 hGA (calls_of (by kernel_rfl)) (callsW_of (by kernel_rfl)) fun args ⟨l, _⟩ w0 hrd hpre hg => ?_
  obtain ⟨v, _, rfl, hl, rfl⟩ := hrd
  replace hl : LsI w0 v l := hl
  refine ⟨[.x (.v 0)], [], [], 2, env0 [v] w0, fun b => b, 0, rfl, rfl, fun X hX => mem_none hX rfl, fun X hP hS hw hX hR => ?_⟩
  subst hw; try dsimp only at hR
  rw [vc12 X]
  refine ⟨fun q w => ∃ i v, q = [v, J i] ∧ i ≤ min 40 l.length ∧ Kn X w ∧ w.ownsRow X.w0.heap.size 40 2 v i ((tabN (prA l) i).flatMap encPr), fun q _ => match q with | [_, i] => 40 - intNat i | _ => 0, fun w hw => ⟨0, _, rfl, Nat.zero_le _, hw.kn, World.ownsRow_nil _ _ _ _⟩, ?_⟩
  rintro _ _ w ⟨i, v', he, hi, hk, ho⟩
  simp only [List.cons.injEq, and_true] at he
  obtain ⟨rfl, rfl⟩ := he
  refine a_len hP tyI hl.1 ?_
  rw [ask_lssN]
  refine a_andA (d := decide (i < 40)) (fun _ K' hK => by rw [ask_lssN]; exact hK) ?_
  refine a_if (fun h => ?_) fun h => ?_
  · have hlt : i < l.length ∧ i < 40 := by simpa using h
    have hl' : LsI w v l := hl.stp0 (hk.stp0 hX)
    refine ld_I hP hk hl' hlt.1 (fun _ _ => List.not_mem_nil) ?_
    rw [ask_rem35]
    refine ld_I hP hk hl' hlt.1 (fun _ _ => List.not_mem_nil) ?_
    rw [ask_rem35]
    refine a_plain rfl (a_plain rfl ?_)
    refine a_push (k := 1) (encPr (prA l i)).toArray hX hP tyPr (by decide) rfl (by decide) (by decide) (by decide) (by kernel_rfl) rfl (by simp [encPr, Value.oneCell']) rfl (Nat.le_refl _) hk.sz0 ho (by unfold maxLen; omega) (by omega) fun v2 w2 hk2 hs2 ho2 _ => ?_
    rw [ask_succ (by omega)]
    intro w3 hw3
    refine ⟨⟨i + 1, v2, rfl, by omega, hw3.kn, ?_⟩, by simp [intNat]; omega⟩
    rw [tabN_succ, List.flatMap_append]
    have := own_stp0 ho2 hw3.stp
    simpa using this
  · have hge : l.length ≤ i ∨ 40 ≤ i := by
      have h' : i < l.length → 40 ≤ i := by simpa using h
      omega
    obtain rfl : i = min 40 l.length := by omega
    refine hR _ _ _ _ fun w2 hw2 => ?_
    show w2.ownsRow _ _ _ _ (pairsA l).length _
    rw [show (pairsA l).length = min 40 l.length from tabN_len _ _]
    exact own_stp0 ho hw2.stp
/-! ### the law -/
def ann4 : Ann := ⟨[], [21, 16, 15, 17], 70, [(6, false), (12, false), (14, false), (13, false), (18, false), (19, false), (20, false)], [], none, [], []⟩
def kb4_0 (b0 : Nat) (x12 x13 : Value) : List KB := [⟨b0, true, 40, #[x12, x13]⟩]
def kb4_1 (b0 b1 : Nat) (x12 x13 x35 x36 : Value) : List KB := [⟨b0, true, 40, #[x12, x13]⟩, ⟨b1, true, 40, #[x35, x36]⟩]
def kb4_2 (b0 b1 b2 : Nat) (x12 x13 x35 x36 x55 x56 : Value) : List KB := [⟨b0, true, 40, #[x12, x13]⟩, ⟨b1, true, 40, #[x35, x36]⟩, ⟨b2, true, 40, #[x55, x56]⟩]
def kb4_3 (b0 b1 b2 b3 : Nat) (x12 x13 x35 x36 x55 x56 x61 x62 : Value) : List KB := [⟨b0, true, 40, #[x12, x13]⟩, ⟨b1, true, 40, #[x35, x36]⟩, ⟨b2, true, 40, #[x55, x56]⟩, ⟨b3, true, 40, #[x61, x62]⟩]
theorem vc4 (X : Ctx) (β : Nat → Nat) (x0 x1 x2 : Value) : (run Try.prog ann4 4 [.x (.v 0), .x (.v 1), .x (.v 2)] [] [] 4).den X (env0 [x0, x1, x2] X.w0) 4 β 0 (fun _ _ _ => False) = (
 AskW X X.w0 [] [] false 6 [] fun x4 w4 =>
 Ask (rUn X.P .not x4) fun x5 =>
 (∃ t, x5 = .bool t) ∧ (x5 = .bool true →
 Ret X w4 [] [] (.bool false)) ∧ (x5 = .bool false →
 AskW X w4 [] [] false 12 [x0] fun x6 w6 =>
 AskW X w6 [] [] false 12 [x1] fun x7 w7 =>
 Ask (rBin X.P .rem 3 false true x2 (J 35)) fun x8 =>
 Ask (rBin X.P .rem 3 false true x2 (J 35)) fun x9 =>
 Ask (rPlain x8) fun x10 =>
 Ask (rPlain x9) fun x11 =>
 AskNew w7 fun b0 =>
 Ask (rPlain x10) fun x12 =>
 Ask (rPlain x11) fun x13 =>
 AskW X w7 [b0] (kb4_0 b0 x12 x13) false 14 [x6, x7] fun x14 w14 =>
 AskW X w14 [] (kb4_0 b0 x12 x13) false 13 [x14, (.agg #[x12, x13])] fun x15 w15 =>
 AskW X w15 [] (kb4_0 b0 x12 x13) false 13 [x6, (.agg #[x12, x13])] fun x16 w16 =>
 AskW X w16 [] (kb4_0 b0 x12 x13) false 13 [x7, (.agg #[x12, x13])] fun x17 w17 =>
 AskF X 16 [x16, x17] fun x18 =>
 AskF X 15 [x15, x18] fun x19 =>
 AskF X 17 [x19] fun x20 =>
 Ask (rUn X.P .not x20) fun x21 =>
 (∃ t, x21 = .bool t) ∧ (x21 = .bool true →
 Ret X w17 [] [] (.bool false)) ∧ (x21 = .bool false →
 Ask (rLen X.P 37 x6) fun x22 =>
 AskW X w17 [] (kb4_0 b0 x12 x13) false 18 [(.agg #[x12, x13]), x22] fun x23 w23 =>
 Ask (rExt X.P x23 0) fun x24 =>
 Ask (rExt X.P x23 1) fun x25 =>
 Ask (rBin X.P .neq 29 false true x25 (J 0)) fun x26 =>
 AskG [(x26, false)] (rLen X.P 37 x24) fun x27 =>
 AskG [(x26, false)] (rLen X.P 37 x6) fun x28 =>
 AskG [(x26, false)] (rBin X.P .neq 3 false false x27 x28) fun x29 =>
 Ask (rPick x26 (.bool true) x29) fun x30 =>
 (∃ t, x30 = .bool t) ∧ (x30 = .bool true →
 Ret X w23 [] [] (.bool false)) ∧ (x30 = .bool false →
 AskW X w23 [] (kb4_0 b0 x12 x13) false 19 [x24, x6] fun x31 w31 =>
 Ask (rExt X.P x31 0) fun x32 =>
 Ask (rExt X.P x31 1) fun x33 =>
 AskNew w31 fun b1 =>
 Ask (rAgg 2 x32) fun x34 =>
 Ask (rSel (aggArr x34) 0 1 false) fun x35 =>
 Ask (rSel (aggArr x34) 1 1 false) fun x36 =>
 Ask (rBin X.P .neq 29 false true x33 (J 0)) fun x37 =>
 AskGW X [(x37, false)] w31 [b1] (kb4_1 b0 b1 x12 x13 x35 x36) false 13 [x6, (.agg #[x12, x13])] fun x38 w38 =>
 AskGF X [(x37, false)] 15 [(.agg #[x35, x36]), x38] fun x39 =>
 AskGF X [(x37, false)] 17 [x39] fun x40 =>
 AskG [(x37, false)] (rUn X.P .not x40) fun x41 =>
 Ask (rPick x37 (.bool true) x41) fun x42 =>
 (∃ t, x42 = .bool t) ∧ (x42 = .bool true →
 Ret X w38 [b1] [] (.bool false)) ∧ (x42 = .bool false →
 AskW X w38 [b1] (kb4_1 b0 b1 x12 x13 x35 x36) false 20 [(.agg #[x12, x13]), x6, (.agg #[(J 1), (J 1)]), x24] fun x43 w43 =>
 Ask (rExt X.P x43 0) fun x44 =>
 Ask (rExt X.P x43 1) fun x45 =>
 Ask (rBin X.P .neq 29 false true x45 (J 0)) fun x46 =>
 AskG [(x46, false)] (rLen X.P 37 x44) fun x47 =>
 AskG [(x46, false)] (rLen X.P 37 x6) fun x48 =>
 AskG [(x46, false)] (rBin X.P .neq 3 false false x47 x48) fun x49 =>
 Ask (rPick x46 (.bool true) x49) fun x50 =>
 (∃ t, x50 = .bool t) ∧ (x50 = .bool true →
 Ret X w43 [] [] (.bool false)) ∧ (x50 = .bool false →
 AskW X w43 [] (kb4_1 b0 b1 x12 x13 x35 x36) false 19 [x44, x6] fun x51 w51 =>
 Ask (rExt X.P x51 0) fun x52 =>
 Ask (rExt X.P x51 1) fun x53 =>
 AskNew w51 fun b2 =>
 Ask (rAgg 2 x52) fun x54 =>
 Ask (rSel (aggArr x54) 0 1 false) fun x55 =>
 Ask (rSel (aggArr x54) 1 1 false) fun x56 =>
 AskW X w51 [b2] (kb4_2 b0 b1 b2 x12 x13 x35 x36 x55 x56) false 19 [x6, x6] fun x57 w57 =>
 Ask (rExt X.P x57 0) fun x58 =>
 Ask (rExt X.P x57 1) fun x59 =>
 AskNew w57 fun b3 =>
 Ask (rAgg 2 x58) fun x60 =>
 Ask (rSel (aggArr x60) 0 1 false) fun x61 =>
 Ask (rSel (aggArr x60) 1 1 false) fun x62 =>
 AskW X w57 [b3] (kb4_3 b0 b1 b2 b3 x12 x13 x35 x36 x55 x56 x61 x62) false 19 [x24, x6] fun x63 w63 =>
 Ask (rExt X.P x63 0) fun x64 =>
 Ask (rExt X.P x63 1) fun x65 =>
 AskNew w63 fun b4 =>
 Ask (rAgg 2 x64) fun x66 =>
 Ask (rSel (aggArr x66) 0 1 false) fun x67 =>
 Ask (rSel (aggArr x66) 1 1 false) fun x68 =>
 Ask (rBin X.P .eql 29 false true x53 (J 0)) fun x69 =>
 AskG [(x69, true)] (rBin X.P .eql 29 false true x59 (J 0)) fun x70 =>
 Ask (rPick x69 x70 (.bool false)) fun x71 =>
 AskG [(x71, true)] (rBin X.P .eql 29 false true x65 (J 0)) fun x72 =>
 Ask (rPick x71 x72 (.bool false)) fun x73 =>
 AskGF X [(x73, true)] 16 [(.agg #[x12, x13]), (.agg #[x61, x62])] fun x74 =>
 AskGF X [(x73, true)] 21 [x74, (.agg #[x67, x68])] fun x75 =>
 AskGF X [(x73, true)] 15 [(.agg #[x55, x56]), x75] fun x76 =>
 AskGF X [(x73, true)] 17 [x76] fun x77 =>
 Ask (rPick x73 x77 (.bool false)) fun x78 =>
 Ret X w63 [b4] [] x78)))))) := by kernel_rfl
def cRing : Contract := fnW (Cods.cons cLI (Cods.cons cLI (Cods.cons cIv Cods.nil))) (fun _ _ => True) (fun _ _ v _ => v = .bool true)
def TAr : Table := ((((((((((TA0.add 6 cAlv).add 12 cPai).add 14 cPPr).add 13 cPEv).add 18 cPPw).add 19 cPIn).add 20 cPMx).add 21 cPAdd).add 16 cPMul).add 15 cPSub).add 17 cPIsZ
theorem keepTAr : AllKeep Try.prog GA TAr := ((((((((((keepTA0.add keepsAlv).add keepsPai).add keepsPPr).add keepsPEv).add keepsPPw).add keepsPIn).add keepsPMx).add keepsPAdd).add keepsPMul).add keepsPSub).add keepsPIsZ
section
variable {X : Ctx} {K : Value → Prop} (hS : X.S = TAr.spec)
include hS
theorem r_Add (a b : Z2) (hK : K (P2 (pR.add a b))) : AskF X 21 [P2 a, P2 b] K := call_PE hS (T := TAr) (f := 21) rfl (a, b) trivial hK
theorem r_Mul (a b : Z2) (hK : K (P2 (pR.mul a b))) : AskF X 16 [P2 a, P2 b] K := call_PE hS (T := TAr) (f := 16) rfl (a, b) trivial hK
theorem r_Sub (a b : Z2) (hK : K (P2 (pR.sub a b))) : AskF X 15 [P2 a, P2 b] K := call_PE hS (T := TAr) (f := 15) rfl (a, b) trivial hK
theorem r_IsZ (a : Z2) (hK : K (.bool (pZero a))) : AskF X 17 [P2 a] K := call_PE hS (T := TAr) (f := 17) rfl a trivial hK
end
theorem own_P {w w' : World} {base : Nat} {v : Value} {l : List Z2} (h : w.ownsRow base 40 2 v l.length (l.flatMap encPr)) {ex : List Nat} (hs : Stp ex w w') (he : ∀ b ∈ ex, b < base ∨ w.heap.size ≤ b) : LsP w' v l :=
  ⟨(own_slAt h).stp hs fun g hg hm => by
    have h1 := h.lt g hg
    have h2 := he g hm
    omega, fun _ _ => trivial⟩
set_option maxHeartbeats 4000000 in
theorem keepsRing : Keeps1 Try.prog GA 4 cRing := by
  refine keepsW (T := TAr) (A := ann4) hMix keepTAr hGA (calls_of (by kernel_rfl)) (callsW_of (by kernel_rfl)) fun args ⟨c, d, x, _⟩ w0 hrd hpre hg => ?_
  obtain ⟨vc, _, rfl, hc, vd, _, rfl, hd, _, _, rfl, rfl, rfl⟩ := hrd
  replace hc : LsI w0 vc c := hc
  replace hd : LsI w0 vd d := hd
  refine ⟨[.x (.v 0), .x (.v 1), .x (.v 2)], [], [], 4, env0 [vc, vd, .int .i64 x] w0, fun b => b, 0, rfl, rfl, fun X hX => mem_none hX rfl, fun X hP hS hw hX hR => ?_⟩
  subst hw; try dsimp only at hR
  rw [vc4 X]
  refine call_W hX hS (T := TAr) (f := 6) rfl () (fun w hw => ⟨rfl, trivial⟩) fun v u4 w4 h4 k4 s4 su4 hv => ?_
  subst hv
  rw [ask_not]
  refine a_if (fun h => by cases h) fun _ => ?_
  refine call_W hX hS (T := TAr) (f := 12) rfl (c, ()) (fun w hw => ⟨⟨_, _, rfl, hc.stp0 (su4.trans0 hw.stp), rfl⟩, trivial⟩) fun vp u6 w6 h6 k6 s6 su6 op => ?_
  refine call_W hX hS (T := TAr) (f := 12) rfl (d, ()) (fun w hw => ⟨⟨_, _, rfl, hd.stp0 (su4.trans0 (su6.trans0 hw.stp)), rfl⟩, trivial⟩) fun vq u7 w7 h7 k7 s7 su7 oq => ?_
  dsimp only at op oq
  obtain ⟨p, hp⟩ : ∃ p, p = pairsA c := ⟨_, rfl⟩
  obtain ⟨q, hq⟩ : ∃ q, q = pairsA d := ⟨_, rfl⟩
  rw [← hp] at op
  rw [← hq] at oq
  have lp : p.length ≤ 40 := hp ▸ pairsA_len c
  have lq : q.length ≤ 40 := hq ▸ pairsA_len d
  rw [ask_rem35, ask_rem35]
  refine a_plain rfl (a_plain rfl ?_)
  intro b0 hb0
  refine a_plain rfl (a_plain rfl ?_)
  obtain ⟨at_, hat⟩ : ∃ a : Z2, a = (x.tmod 35, x.tmod 35) := ⟨_, rfl⟩
  have eat : (Value.agg #[.int .i64 (x.tmod 35), .int .i64 (x.tmod 35)]) = P2 at_ := by rw [hat]; rfl
  rw [eat]
  have p7 : ∀ {w : World}, Stp [b0] w7 w → LsP w vp p := fun hs => own_P op (su7.trans hs) (by simp; right; have := su7.size; omega)
  have q7 : ∀ {w : World}, Stp [b0] w7 w → LsP w vq q := fun hs => own_P oq hs (by simp; right; omega)
  refine call_W hX hS (T := TAr) (f := 14) rfl (p, q, ()) (fun w hw => ⟨⟨_, _, rfl, p7 hw.stp, _, _, rfl, q7 hw.stp, rfl⟩, by show p.length ≤ 1000; omega, by show q.length ≤ 1000; omega⟩) fun vr u14 w14 h14 k14 s14 su14 orr => ?_
  dsimp only at orr
  have lr : (pR.product p q).length ≤ 1000 := by
    rw [Rg.product]; split
    · simp
    · rw [tabN_len]; omega
  refine call_W hX hS (T := TAr) (f := 13) rfl (pR.product p q, at_, ()) (fun w hw => ⟨⟨_, _, rfl, own_P orr hw.stp (by simp), _, _, rfl, rfl, rfl⟩, lr⟩) fun v u15 w15 h15 k15 s15 su15 hv => ?_
  dsimp only at hv
  subst hv
  have t15 : Stp [b0] w7 w15 := su14.trans su15
  refine call_W hX hS (T := TAr) (f := 13) rfl (p, at_, ()) (fun w hw => ⟨⟨_, _, rfl, p7 (t15.trans hw.stp), _, _, rfl, rfl, rfl⟩, by show p.length ≤ 1000; omega⟩) fun v u16 w16 h16 k16 s16 su16 hv => ?_
  dsimp only at hv
  subst hv
  have t16 : Stp [b0] w7 w16 := t15.trans su16
  refine call_W hX hS (T := TAr) (f := 13) rfl (q, at_, ()) (fun w hw => ⟨⟨_, _, rfl, q7 (t16.trans hw.stp), _, _, rfl, rfl, rfl⟩, by show q.length ≤ 1000; omega⟩) fun v u17 w17 h17 k17 s17 su17 hv => ?_
  dsimp only at hv
  subst hv
  have t17 : Stp [b0] w7 w17 := t16.trans su17
  refine r_Mul hS _ _ (r_Sub hS _ _ (r_IsZ hS _ ?_))
  rw [pz (pR.law1 hom5 p q at_) (pR.law1 hom7 p q at_), ask_not]
  refine a_if (fun h => by cases h) fun _ => ?_
  refine a_len hP tyPr (p7 t17).1 ?_
  refine call_W hX hS (T := TAr) (f := 18) rfl (at_, p.length, ()) (fun w hw => ⟨⟨_, _, rfl, rfl, _, _, rfl, rfl, rfl⟩, by show p.length ≤ 1000; omega⟩) fun v u23 w23 h23 k23 s23 su23 hv => ?_
  obtain ⟨vl, rfl, ol⟩ := hv
  dsimp only at ol
  obtain ⟨l, hl⟩ : ∃ l, l = tabN (pR.pw at_) p.length := ⟨_, rfl⟩
  have ll : l.length = p.length := by rw [hl, tabN_len]
  rw [← hl, ← ll] at ol
  have t23 : Stp [b0] w7 w23 := t17.trans su23
  rw [ask_ext (v := vl) rfl, ask_ext (v := J 0) rfl, ask_neqN, decide_eq_true rfl]
  refine a_G_on condsV1 (a_len hP tyPr (own_slAt ol) ?_)
  refine a_G_on condsV1 (a_len hP tyPr (p7 t23).1 ?_)
  refine a_G_on condsV1 ?_
  rw [ask_neqN, ll, decide_eq_true rfl, Bool.not_true, ask_pickF]
  refine a_if (fun h => by cases h) fun _ => ?_
  have l23 : ∀ {w : World}, Stp [] w23 w → LsP w vl l := fun hs => own_P ol hs (by simp)
  refine call_W hX hS (T := TAr) (f := 19) rfl (l, p, ()) (fun w hw => ⟨⟨_, _, rfl, l23 hw.stp, _, _, rfl, p7 (t23.trans hw.stp), rfl⟩, by show l.length ≤ 1000; omega, ll.symm⟩) fun v u31 w31 h31 k31 s31 su31 hv => ?_
  dsimp only at hv
  subst hv
  have t31 : Stp [b0] w7 w31 := t23.trans su31
  rw [ask_ext (v := P2 (pR.inner l p)) rfl, ask_ext (v := J 0) rfl]
  intro b1 hb1
  refine a_P2 (a_sel1 rfl (a_sel1 rfl ?_))
  rw [ask_neqN, decide_eq_true rfl]
  refine a_GW_on condsV1 (call_W hX hS (T := TAr) (f := 13) rfl (p, at_, ()) (fun w hw => ⟨⟨_, _, rfl, own_P op (su7.trans (t31.trans hw.stp)) ?_, _, _, rfl, rfl, rfl⟩, by show p.length ≤ 1000; omega⟩) fun v u38 w38 h38 k38 s38 su38 hv => ?_)
  · have z7 := su7.size
    have z31 := t31.size
    simp
    omega
  dsimp only at hv
  subst hv
  refine a_GF_on condsV1 (r_Sub hS _ _ ?_)
  refine a_GF_on condsV1 (r_IsZ hS _ ?_)
  rw [pz (by rw [hl]; exact pR.law2 hom5 p at_) (by rw [hl]; exact pR.law2 hom7 p at_)]
  refine a_G_on condsV1 ?_
  rw [ask_not, Bool.not_true, ask_pickF]
  refine a_if (fun h => by cases h) fun _ => ?_
  have z7 := su7.size
  have z31 := t31.size
  have z23 := t23.size
  have z3 := su31.size
  have p38 : ∀ {w : World}, Stp [b1] w38 w → LsP w vp p := fun hs => own_P op (su7.trans (t31.trans (su38.trans hs))) (by simp; omega)
  have l38 : ∀ {w : World}, Stp [b1] w38 w → LsP w vl l := fun hs => own_P ol (su31.trans (su38.trans hs)) (by simp; omega)
  refine call_W hX hS (T := TAr) (f := 20) rfl (at_, p, pR.one, l, ()) (fun w hw => ⟨⟨_, _, rfl, rfl, _, _, rfl, p38 hw.stp, _, _, rfl, rfl, _, _, rfl, l38 hw.stp, rfl⟩, by show p.length ≤ 1000; omega, ll⟩) fun v u43 w43 h43 k43 s43 su43 hv => ?_
  obtain ⟨vt, rfl, ot⟩ := hv
  dsimp only at ot
  obtain ⟨t, ht⟩ : ∃ t, t = tabN (pR.mix at_ p pR.one l) p.length := ⟨_, rfl⟩
  have lt : t.length = p.length := by rw [ht, tabN_len]
  rw [← ht, ← lt] at ot
  have t43 : Stp [b1] w38 w43 := su43
  rw [ask_ext (v := vt) rfl, ask_ext (v := J 0) rfl, ask_neqN, decide_eq_true rfl]
  refine a_G_on condsV1 (a_len hP tyPr (own_slAt ot) ?_)
  refine a_G_on condsV1 (a_len hP tyPr (p38 t43).1 ?_)
  refine a_G_on condsV1 ?_
  rw [ask_neqN, lt, decide_eq_true rfl, Bool.not_true, ask_pickF]
  refine a_if (fun h => by cases h) fun _ => ?_
  refine call_W hX hS (T := TAr) (f := 19) rfl (t, p, ()) (fun w hw => ⟨⟨_, _, rfl, own_P ot hw.stp (by simp), _, _, rfl, p38 (t43.trans hw.stp), rfl⟩, by show t.length ≤ 1000; omega, lt.symm⟩) fun v u51 w51 h51 k51 s51 su51 hv => ?_
  dsimp only at hv
  subst hv
  have t51 : Stp [b1] w38 w51 := t43.trans su51
  rw [ask_ext (v := P2 (pR.inner t p)) rfl, ask_ext (v := J 0) rfl]
  intro b2 hb2
  refine a_P2 (a_sel1 rfl (a_sel1 rfl ?_))
  have z51 := t51.size
  have z38 := su38.size
  refine call_W hX hS (T := TAr) (f := 19) rfl (p, p, ()) (fun w hw => ⟨⟨_, _, rfl, own_P op (su7.trans (t31.trans (su38.trans (t51.trans hw.stp)))) ?_, _, _, rfl, own_P op (su7.trans (t31.trans (su38.trans (t51.trans hw.stp)))) ?_, rfl⟩, by show p.length ≤ 1000; omega, rfl⟩) fun v u57 w57 h57 k57 s57 su57 hv => ?_
  · simp; omega
  · simp; omega
  dsimp only at hv
  subst hv
  have z57 := su57.size
  rw [ask_ext (v := P2 (pR.inner p p)) rfl, ask_ext (v := J 0) rfl]
  intro b3 hb3
  refine a_P2 (a_sel1 rfl (a_sel1 rfl ?_))
  refine call_W hX hS (T := TAr) (f := 19) rfl (l, p, ()) (fun w hw => ⟨⟨_, _, rfl, own_P ol (su31.trans (su38.trans (t51.trans (su57.trans hw.stp)))) ?_, _, _, rfl, own_P op (su7.trans (t31.trans (su38.trans (t51.trans (su57.trans hw.stp))))) ?_, rfl⟩, by show l.length ≤ 1000; omega, ll.symm⟩) fun v u63 w63 h63 k63 s63 su63 hv => ?_
  · simp; omega
  · simp; omega
  dsimp only at hv
  subst hv
  rw [ask_ext (v := P2 (pR.inner l p)) rfl, ask_ext (v := J 0) rfl]
  intro b4 hb4
  refine a_P2 (a_sel1 rfl (a_sel1 rfl ?_))
  rw [ask_eqlN, decide_eq_true rfl]
  refine a_G_on condsV1 ?_
  rw [ask_eqlN, decide_eq_true rfl, ask_pickT]
  refine a_G_on condsV1 ?_
  rw [ask_eqlN, decide_eq_true rfl, ask_pickT]
  refine a_GF_on condsV1 (r_Mul hS at_ (pR.inner p p) ?_)
  refine a_GF_on condsV1 (r_Add hS _ (pR.inner l p) ?_)
  refine a_GF_on condsV1 (r_Sub hS (pR.inner t p) _ ?_)
  refine a_GF_on condsV1 (r_IsZ hS _ ?_)
  rw [pz (by rw [ht]; exact pR.law3 hom5 p l at_ ll) (by rw [ht]; exact pR.law3 hom7 p l at_ ll), ask_pickT]
  exact hR _ _ _ _ fun _ _ => rfl
#print axioms keepsRing
end Go.Vc
