/-
  The prover finishes.
-/
import Derived.Test.YtcnmnmhmmgjblaaGreatDoorDJi
namespace Go.Vc
open Go Go.Proofs Go.RowKit
theorem a_updC {cs cs' : List Value} {pos m : Nat} {x : Value} {K : Value → Prop} (ds : List Value) (hx : x.cells.toList = ds) (hs : cs.take pos ++ ds ++ (cs.drop pos).drop m = cs') (hm : ds.length = m) (pm : pos + m ≤ cs.length) (ho : ds.all (·.oneCell') = true) (hK : K (.agg cs'.toArray)) :
    Ask (rUpd (aggArr (.agg cs.toArray)) pos m x) K := by
  refine a_upd3 (cs.take pos) ((cs.drop pos).take m) ((cs.drop pos).drop m) ds ?_ hx (by rw [List.length_take]; omega) (by rw [List.length_take, List.length_drop]; omega) hm ho ?_
  · rw [List.append_assoc, List.take_append_drop, List.take_append_drop]; rfl
  · rw [hs]; exact hK
namespace PrA
variable (a : PrA) (x : Nat)
def Lf (i : Nat) : F := a.Lc.getD i 0 + rF x * rF (a.Ld.getD i 0)
def Rf (i : Nat) : F := a.Rc.getD i 0 + rF x * a.Rd.getD i 0
def th : F := sumF' (fun i => a.Lf x i * a.Rf x i) a.d.N
def mu : F := rF a.d.t.1 + rF a.d.t.2.1 * rF x
def tx (j : Nat) : F := rF a.d.t.2.2.1 * rF x + rF a.d.t.2.2.2.1 * rF x * rF x + sumF' (fun j => fp a.P.z (2 + j) * rF (bAt a.d.vs j)) j
end PrA
def ann39 : Ann := ⟨[(15, ([104], [2, 3]))], [30, 28, 48, 29, 49, 71], 70, [(93, false), (67, false)], [3, 7], some false, [], []⟩
def kb39_0 (b0 b1 b2 : Nat) (x3 x20 : Value) : List KB := [⟨b0, true, 29, (aggArr x3)⟩, ⟨b1, true, 83, #[(U 0), (U 0), (U 0), (U 0), (U 0), (U 0), (U 0), (U 0), (U 0), (U 0), (U 0), (U 0), (U 0), (U 0), (U 0), (U 0), (U 0), (U 0), (U 0), (U 0), (U 0), (U 0), (U 0), (U 0), (U 0), (U 0), (U 0), (U 0), (U 0), (U 0), (U 0), (U 0), (U 0), (U 0), (U 0), (U 0), (U 0), (U 0), (U 0), (U 0), (.slice none 0 0), (.slice none 0 0)]⟩, ⟨b2, true, 83, (aggArr x20)⟩]
def kb39_1 (b0 b1 b2 : Nat) (x3 x30 : Value) : List KB := [⟨b0, true, 29, (aggArr x3)⟩, ⟨b1, true, 83, #[(U 0), (U 0), (U 0), (U 0), (U 0), (U 0), (U 0), (U 0), (U 0), (U 0), (U 0), (U 0), (U 0), (U 0), (U 0), (U 0), (U 0), (U 0), (U 0), (U 0), (U 0), (U 0), (U 0), (U 0), (U 0), (U 0), (U 0), (U 0), (U 0), (U 0), (U 0), (U 0), (U 0), (U 0), (U 0), (U 0), (U 0), (U 0), (U 0), (U 0), (.slice none 0 0), (.slice none 0 0)]⟩, ⟨b2, true, 83, (aggArr x30)⟩]
def kb39_2 (b0 b1 b2 b3 : Nat) (x3 x60 x65 : Value) : List KB := [⟨b0, true, 29, (aggArr x3)⟩, ⟨b1, true, 83, #[(U 0), (U 0), (U 0), (U 0), (U 0), (U 0), (U 0), (U 0), (U 0), (U 0), (U 0), (U 0), (U 0), (U 0), (U 0), (U 0), (U 0), (U 0), (U 0), (U 0), (U 0), (U 0), (U 0), (U 0), (U 0), (U 0), (U 0), (U 0), (U 0), (U 0), (U 0), (U 0), (U 0), (U 0), (U 0), (U 0), (U 0), (U 0), (U 0), (U 0), (.slice none 0 0), (.slice none 0 0)]⟩, ⟨b2, true, 83, (aggArr x60)⟩, ⟨b3, true, 29, (aggArr x65)⟩]
def kb39_3 (b0 b1 b2 b3 : Nat) (x3 x71 x72 : Value) : List KB := [⟨b0, true, 29, (aggArr x3)⟩, ⟨b1, true, 83, #[(U 0), (U 0), (U 0), (U 0), (U 0), (U 0), (U 0), (U 0), (U 0), (U 0), (U 0), (U 0), (U 0), (U 0), (U 0), (U 0), (U 0), (U 0), (U 0), (U 0), (U 0), (U 0), (U 0), (U 0), (U 0), (U 0), (U 0), (U 0), (U 0), (U 0), (U 0), (U 0), (U 0), (U 0), (U 0), (U 0), (U 0), (U 0), (U 0), (U 0), (.slice none 0 0), (.slice none 0 0)]⟩, ⟨b2, true, 83, (aggArr x71)⟩, ⟨b3, true, 29, (aggArr x72)⟩]
theorem vc39 (X : Ctx) (β : Nat → Nat) (x0 x1 : Value) : (run Tryz.prog ann39 39 [.x (.v 0), .x (.v 1)] [] [] 3).den X (env0 [x0, x1] X.w0) 3 β 0 (fun _ _ _ => False) = (
 Ask (rAgg 4 x1) fun x3 =>
 AskNew X.w0 fun b0 =>
 AskNew X.w0 fun b1 =>
 Ask (rBin X.P .eql 100 false true x0 (.pointer none)) fun x4 =>
 AskG [(x4, false)] (rGen X.P (Op.nilCheck (Operand.tmp 14)) 0 [(14, x0)]) fun x5 =>
 AskG [(x4, false)] (rFad X.P 167 x5 0) fun x6 =>
 AskG [(x4, false)] (rLoad X X.w0 [] 3 x6) fun x7 =>
 AskG [(x4, false)] (rBin X.P .eql 3 false true x7 (J 0)) fun x8 =>
 Ask (rPick x4 (.bool true) x8) fun x9 =>
 (∃ t, x9 = .bool t) ∧ (x9 = .bool true →
 Ret X X.w0 [b1] [] (.tuple #[(.agg #[(U 0), (U 0), (U 0), (U 0), (U 0), (U 0), (U 0), (U 0), (U 0), (U 0), (U 0), (U 0), (U 0), (U 0), (U 0), (U 0), (U 0), (U 0), (U 0), (U 0), (U 0), (U 0), (U 0), (U 0), (U 0), (U 0), (U 0), (U 0), (U 0), (U 0), (U 0), (U 0), (U 0), (U 0), (U 0), (U 0), (U 0), (U 0), (U 0), (U 0), (.slice none 0 0), (.slice none 0 0)]), (J 1)])) ∧ (x9 = .bool false →
 Ask (rGen X.P (Op.nilCheck (Operand.tmp 22)) 0 [(22, x0)]) fun x10 =>
 Ask (rFad X.P 167 x10 0) fun x11 =>
 Ask (rLoad X X.w0 [] 3 x11) fun x12 =>
 Ask (rBin X.P .neq 3 false true x12 (J 2)) fun x13 =>
 (∃ t, x13 = .bool t) ∧ (x13 = .bool true →
 Ret X X.w0 [b1] [] (.tuple #[(.agg #[(U 0), (U 0), (U 0), (U 0), (U 0), (U 0), (U 0), (U 0), (U 0), (U 0), (U 0), (U 0), (U 0), (U 0), (U 0), (U 0), (U 0), (U 0), (U 0), (U 0), (U 0), (U 0), (U 0), (U 0), (U 0), (U 0), (U 0), (U 0), (U 0), (U 0), (U 0), (U 0), (U 0), (U 0), (U 0), (U 0), (U 0), (U 0), (U 0), (U 0), (.slice none 0 0), (.slice none 0 0)]), (J 6)])) ∧ (x13 = .bool false →
 AskF X 30 [x3] fun x14 =>
 (∃ t, x14 = .bool t) ∧ (x14 = .bool true →
 Ret X X.w0 [b1] [] (.tuple #[(.agg #[(U 0), (U 0), (U 0), (U 0), (U 0), (U 0), (U 0), (U 0), (U 0), (U 0), (U 0), (U 0), (U 0), (U 0), (U 0), (U 0), (U 0), (U 0), (U 0), (U 0), (U 0), (U 0), (U 0), (U 0), (U 0), (U 0), (U 0), (U 0), (U 0), (U 0), (U 0), (U 0), (U 0), (U 0), (U 0), (U 0), (U 0), (U 0), (U 0), (U 0), (.slice none 0 0), (.slice none 0 0)]), (J 4)])) ∧ (x14 = .bool false →
 Ask (rGen X.P (Op.nilCheck (Operand.tmp 32)) 0 [(32, x0)]) fun x15 =>
 Ask (rFad X.P 167 x15 7) fun x16 =>
 Ask (rLoad X X.w0 [] 83 x16) fun x17 =>
 AskNew X.w0 fun b2 =>
 Ask (rAgg 42 x17) fun x18 =>
 AskF X 71 [x3] fun x19 =>
 Ask (rUpd (aggArr x18) 24 4 x19) fun x20 =>
 Ask (rGen X.P (Op.nilCheck (Operand.tmp 39)) 0 [(39, x0)]) fun x21 =>
 Ask (rFad X.P 167 x21 5) fun x22 =>
 Ask (rLoad X X.w0 [b2, b2] 164 x22) fun x23 =>
 AskW X X.w0 [b2, b2] (kb39_0 b0 b1 b2 x3 x20) false 93 [x23, x3] fun x24 w24 =>
 Ask (rGen X.P (Op.nilCheck (Operand.tmp 45)) 0 [(45, x0)]) fun x25 =>
 Ask (rFad X.P 167 x25 6) fun x26 =>
 Ask (rLoad X X.w0 [b2, b2] 164 x26) fun x27 =>
 AskW X w24 [] (kb39_0 b0 b1 b2 x3 x20) false 93 [x27, x3] fun x28 w28 =>
 Ask (rUpd (aggArr x20) 40 1 x24) fun x29 =>
 Ask (rUpd (aggArr x29) 41 1 x28) fun x30 =>
 Ask (rSel (aggArr x30) 40 1 false) fun x31 =>
 Ask (rSel (aggArr x30) 41 1 false) fun x32 =>
 AskW X w28 [b2, b2] (kb39_1 b0 b1 b2 x3 x30) false 67 [x31, x32] fun x33 w33 =>
 Ask (rExt X.P x33 0) fun x34 =>
 Ask (rExt X.P x33 1) fun _ =>
 Ask (rUpd (aggArr x30) 36 4 x34) fun x36 =>
 Ask (rGen X.P (Op.nilCheck (Operand.tmp 62)) 0 [(62, x0)]) fun x37 =>
 Ask (rFad X.P 167 x37 2) fun x38 =>
 Ask (rFad X.P 36 x38 0) fun x39 =>
 Ask (rLoad X w33 [b2] 29 x39) fun x40 =>
 Ask (rGen X.P (Op.nilCheck (Operand.tmp 67)) 0 [(67, x0)]) fun x41 =>
 Ask (rFad X.P 167 x41 2) fun x42 =>
 Ask (rFad X.P 36 x42 1) fun x43 =>
 Ask (rLoad X w33 [b2] 29 x43) fun x44 =>
 AskF X 49 [x44, x3] fun x45 =>
 AskF X 29 [x40, x45] fun x46 =>
 Ask (rUpd (aggArr x36) 32 4 x46) fun x47 =>
 Ask (rGen X.P (Op.nilCheck (Operand.tmp 76)) 0 [(76, x0)]) fun x48 =>
 Ask (rFad X.P 167 x48 2) fun x49 =>
 Ask (rFad X.P 36 x49 2) fun x50 =>
 Ask (rLoad X w33 [b2, b2] 29 x50) fun x51 =>
 AskF X 49 [x51, x3] fun x52 =>
 Ask (rGen X.P (Op.nilCheck (Operand.tmp 83)) 0 [(83, x0)]) fun x53 =>
 Ask (rFad X.P 167 x53 2) fun x54 =>
 Ask (rFad X.P 36 x54 3) fun x55 =>
 Ask (rLoad X w33 [b2, b2] 29 x55) fun x56 =>
 AskF X 49 [x56, x3] fun x57 =>
 AskF X 49 [x57, x3] fun x58 =>
 AskF X 29 [x52, x58] fun x59 =>
 Ask (rUpd (aggArr x47) 28 4 x59) fun x60 =>
 Ask (rSel (aggArr x60) 20 4 true) fun x61 =>
 Ask (rSel (aggArr x60) 20 4 true) fun x62 =>
 AskF X 49 [x61, x62] fun x63 =>
 Ask (rAgg 4 (.agg #[(U 0), (U 0), (U 0), (U 0)])) fun _ =>
 AskNew w33 fun b3 =>
 Ask (rAgg 4 x63) fun x65 =>
 Ask (rGen X.P (Op.nilCheck (Operand.tmp 99)) 0 [(99, x0)]) fun x66 =>
 Ask (rFad X.P 167 x66 3) fun x67 =>
 Ask (rLoad X w33 [b3, b2, b2, b2] 47 x67) fun x68 =>
 Ask (rLen X.P 47 x68) fun x69 =>
 ∃ (I0 : List Value → World → Prop) (μ0 : List Value → World → Nat), (∀ w, KnownV X w33 [b3, b2, b2, b2] (kb39_2 b0 b1 b2 b3 x3 x60 x65) w → I0 [(J 0), x60, x65] w) ∧ ∀ x70 x71 x72 w73, I0 [x70, x71, x72] w73 →
 Ask (rBin X.P .lss 3 false false x70 x69) fun x74 =>
 (∃ t, x74 = .bool t) ∧ (x74 = .bool true →
 Ask (rIad X.P 47 x68 x70) fun x75 =>
 Ask (rLoad X w73 [] 116 x75) fun x76 =>
 AskNew w73 fun b4 =>
 Ask (rAgg 5 x76) fun x77 =>
 Ask (rSel (aggArr x77) 0 1 false) fun _ =>
 Ask (rSel (aggArr x77) 1 1 false) fun x79 =>
 Ask (rSel (aggArr x77) 2 1 false) fun x80 =>
 Ask (rSel (aggArr x77) 3 1 false) fun x81 =>
 Ask (rSel (aggArr x77) 4 1 false) fun x82 =>
 Ask (rSel (aggArr x71) 28 4 true) fun x83 =>
 AskF X 49 [x72, (.agg #[x79, x80, x81, x82])] fun x84 =>
 AskF X 29 [x83, x84] fun x85 =>
 Ask (rUpd (aggArr x71) 28 4 x85) fun x86 =>
 Ask (rSel (aggArr x86) 20 4 true) fun x87 =>
 AskF X 49 [x72, x87] fun x88 =>
 Ask (rAgg 4 x88) fun x89 =>
 Ask (rBin X.P .add 3 false true x70 (J 1)) fun x90 =>
 Again X w73 [b3, b2, b4] [] fun w => I0 [x90, x86, x89] w ∧ μ0 [x90, x86, x89] w < μ0 [x70, x71, x72] w73) ∧ (x74 = .bool false →
 Ask (rGen X.P (Op.nilCheck (Operand.tmp 121)) 0 [(121, x0)]) fun x75 =>
 Ask (rFad X.P 167 x75 0) fun x76 =>
 AskO X w73 [] (kb39_3 b0 b1 b2 b3 x3 x71 x72) true (Op.store 3 (Operand.tmp 123) (Operand.const (Value.int IntKind.i64 3))) 0 [(123, x76)] fun _ w77 =>
 Ask (rAgg 42 x71) fun x78 =>
 Ret X w77 [b1] [] (.tuple #[x78, (J 0)])))))) := by kernel_rfl
def cFin : Contract := fnM cPrA (fun a _ => a.d.Ok ∧ a.P.ph = 2 ∧ a.Lc.length = a.d.N ∧ a.Ld.length = a.d.N ∧ a.Rc.length = a.d.N ∧ a.Rd.length = a.d.N ∧ ∃ x, a.s = [x] ∧ rF x ≠ 0)
  (fun a w v w' => ∀ x, a.s = [x] → ∃ Lv Rv, v = .tuple #[.agg (vwL a.P.A a.P.S a.P.T1 a.P.T2 a.P.y a.P.z (rF x) (a.tx x a.d.n) (a.mu x) (a.th x) Lv Rv).toArray, J 0] ∧
    w'.ownsRow w.heap.size 29 4 Lv a.d.N ((mapN (a.Lf x) a.d.N).flatMap encF) ∧ w'.ownsRow w.heap.size 29 4 Rv a.d.N ((mapN (a.Rf x) a.d.N).flatMap encF))
  (fun a b => b = a.b)
def Tfn : Table := (((((T0.add 93 cAtl).add 67 cInn).add 29 cqAdd).add 49 cqMul).add 30 cqIsZ).add 71 cqLeast
theorem keepTfn : AllKeep Tryz.prog GT Tfn := (((((keepT0.add keepsAtl).add keepsInn).add keepsqAdd).add keepsqMul).add keepsqIsZ).add keepsqLeast
theorem aggLin : agg? Tryz.prog 164 = some true := by kernel_rfl
theorem szLin : sz Tryz.prog 164 = some 2 := by kernel_rfl
theorem mixF_eq (x : Nat) (l : List F) (m : List Nat) (n : Nat) : mapN (mixF 1 x (l.map (fun f : F => f.val)) m) n = mapN (fun i => l.getD i 0 + rF x * rF (m.getD i 0)) n := mapN_congr fun i _ => by
  rw [mixF, getD_val, rF_one]; grind
set_option maxHeartbeats 8000000 in
theorem keepsFin : Keeps1 Tryz.prog GT 39 cFin := by
  refine keepsM (T := Tfn) (A := ann39) hMix keepTfn (fun a w0 w args hrd _ hg h hs => hGTM _ w0 w (fun b hb => by rw [hb]; exact hrd.2.2.pos) hg h hs) (calls_of (by kernel_rfl)) (callsW_of (by kernel_rfl)) fun args a w0 hrd hpre hgt => ?_
  obtain ⟨rfl, hs, hA⟩ := hrd
  obtain ⟨ok, hph, lLc, lLd, lRc, lRd, x, es, hx0⟩ := hpre
  rw [es] at hs
  have hx : x < W256 := hs x (by simp)
  obtain ⟨b, eb⟩ : ∃ b, b = a.b := ⟨_, rfl⟩
  obtain ⟨P, eP⟩ : ∃ P, P = a.P := ⟨_, rfl⟩
  obtain ⟨d, ed⟩ : ∃ d, d = a.d := ⟨_, rfl⟩
  rw [← eb, ← eP, ← ed] at hA
  rw [← ed] at ok lLc lLd lRc lRd
  rw [← eP] at hph
  rw [es, ← eb]
  refine ⟨[.x (.v 0), .x (.v 1)], [], [], 3, env0 [Pt b, S x] w0, fun b => b, 0, rfl, rfl, fun X hX => mem_none hX rfl, fun X hP hS hw hX hR => ?_⟩
  subst hw; try dsimp only at hR
  rw [vc39 X]
  have hbl : b < X.w0.heap.size := (Array.getElem?_eq_some_iff.1 hA.row).1
  have hmine : X.mine b := (hX b).2 (.inr rfl)
  have hN := ok.N
  have hN0 : 0 < d.N := Nat.mul_pos ok.m0 ok.n0
  have lvs := ok.vs
  have ln1 := ok.n1
  rw [ask_aggS]; intro b0 hb0 b1 hb1
  rw [ask_eq_nilpJ (hP ▸ ptPr)]
  refine a_G_on condsV1 (a_nilCheck ?_)
  refine a_G_on condsV1 (a_fadP hP fdP0 ?_)
  refine a_G_on condsV1 (a_ldPr (v := J P.ph) hP (kn0 X) aggIn hA.row List.not_mem_nil rfl ?_)
  refine a_G_on condsV1 ?_
  rw [hph, ask_eqlN, ask_pickF]
  refine a_if (fun h => by cases h) fun _ => ?_
  refine a_nf hP fdP0 ?_
  refine a_ldPr (v := J P.ph) hP (kn0 X) aggIn hA.row List.not_mem_nil rfl ?_
  rw [hph, ask_neqN]
  refine a_if (fun h => by cases h) fun _ => ?_
  refine call_PE hS (T := Tfn) (f := 30) rfl x hx ?_
  rw [decide_eq_false hx0]
  refine a_if (fun h => by cases h) fun _ => ?_
  refine a_nf hP fdP7 ?_
  refine a_ldPrA (vwL P.A P.S P.T1 P.T2 P.y P.z 0 0 0 0 nl nl) hP (kn0 X) aggVw szVw hA.row List.not_mem_nil rfl ?_
  intro b2 hb2
  refine a_agg (vwL_len _ _ _ _ _ _ _ _ _ _ _ _) (vwL_one rfl rfl) ?_
  refine call_PE hS (T := Tfn) (f := 71) rfl x hx ?_
  refine a_updC (cs' := vwL P.A P.S P.T1 P.T2 P.y P.z (rF x) 0 0 0 nl nl) (encF (rF x)) rfl rfl rfl (by rw [vwL_len]; omega) (one_encF _) ?_
  have nb2 : b ∉ [b2, b2] := by simp; omega
  have stp : ∀ {w : World}, Kn X w → Stp [b] X.w0 w := fun hk => hk.stpM hX (by simp)
  have sep : ∀ v ∈ [P.sl, P.sr, P.vs, P.bits, P.lc, P.ld, P.rc, P.rd], ∀ q, v.ownBlock = some q → q ∉ [b] := fun v hv q hq hm => by
    simp only [List.mem_singleton] at hm
    exact hA.sep v hv (hm ▸ hq)
  have slc := lsF_toS hA.lc
  have src := lsF_toS hA.rc
  have srd := lsF_toS hA.rd
  have sld := hA.ld
  have at' : ∀ {v : Value} {l : List Nat} {w : World}, v ∈ [P.sl, P.sr, P.vs, P.bits, P.lc, P.ld, P.rc, P.rd] → LsS X.w0 v l → Kn X w → LsS w v l := fun hv hl hk => hl.stp (stp hk) (sep _ hv)
  have oc : ∀ {v : Value} {l : List Nat}, LsS X.w0 v l → v.oneCell' = true := fun h => slAt_one h.1
  refine a_nf hP fdP5 ?_
  refine a_ldPrA [P.lc, P.ld] hP (kn0 X) aggLin szLin hA.row nb2 rfl ?_
  refine n_W hX.n hS (T := Tfn) (f := 93) rfl ((a.Lc.map (fun f : F => f.val), a.Ld), x, ()) (fun w hw => ⟨⟨_, _, rfl, ⟨_, _, rfl, at' (by simp) slc hw.kn, at' (by simp) sld hw.kn⟩, _, _, rfl, ⟨rfl, hx⟩, rfl⟩, by show (a.Lc.map _).length = a.Ld.length; rw [List.length_map]; omega, by show (a.Lc.map _).length ≤ 1024; rw [List.length_map]; omega⟩) fun Lv u1 w1 h1 k1 s1 su1 oL => ?_
  dsimp only at oL
  rw [List.length_map, lLc, mixF_eq] at oL
  refine a_nf hP fdP6 ?_
  refine a_ldPrA [P.rc, P.rd] hP (kn0 X) aggLin szLin hA.row nb2 rfl ?_
  refine n_W hX.n hS (T := Tfn) (f := 93) rfl ((a.Rc.map (fun f : F => f.val), a.Rd.map (fun f : F => f.val)), x, ()) (fun w hw => ⟨⟨_, _, rfl, ⟨_, _, rfl, at' (by simp) src hw.kn, at' (by simp) srd hw.kn⟩, _, _, rfl, ⟨rfl, hx⟩, rfl⟩, by show (a.Rc.map _).length = (a.Rd.map _).length; rw [List.length_map, List.length_map]; omega, by show (a.Rc.map _).length ≤ 1024; rw [List.length_map]; omega⟩) fun Rv u2 w2 h2 k2 s2 su2 oR => ?_
  dsimp only at oR
  rw [List.length_map, lRc, mixF_eq, show mapN (fun i => a.Rc.getD i 0 + rF x * rF ((a.Rd.map (fun f : F => f.val)).getD i 0)) d.N = mapN (a.Rf x) d.N from mapN_congr fun i _ => by rw [getD_val]; rfl] at oR
  rw [show mapN (fun i => a.Lc.getD i 0 + rF x * rF (a.Ld.getD i 0)) d.N = mapN (a.Lf x) d.N from rfl] at oL
  have lo : ∀ q ∈ [b0, b1, b2], q < u1.heap.size := fun q hq => h1.low (by simpa [kb39_0] using hq)
  have z1 := su1.size
  have zz1 := s1.size
  have z2 := su2.size
  have zz2 := h2.size
  have zz3 := h1.size
  have oL2 := own_stp0 oL su2
  obtain ⟨la, lc, rfl, _⟩ := slAt_form (own_slAt oL)
  obtain ⟨ra, rc, rfl, _⟩ := slAt_form (own_slAt oR)
  refine a_updC (cs' := vwL P.A P.S P.T1 P.T2 P.y P.z (rF x) 0 0 0 (.slice la d.N lc) nl) [_] rfl rfl rfl (by rw [vwL_len]; omega) rfl ?_
  refine a_updC (cs' := vwL P.A P.S P.T1 P.T2 P.y P.z (rF x) 0 0 0 (.slice la d.N lc) (.slice ra d.N rc)) [_] rfl rfl rfl (by rw [vwL_len]; omega) rfl ?_
  obtain ⟨Lv, eL⟩ : ∃ v, v = Value.slice la d.N lc := ⟨_, rfl⟩
  obtain ⟨Rv, eR⟩ : ∃ v, v = Value.slice ra d.N rc := ⟨_, rfl⟩
  rw [← eL, ← eR]
  rw [← eL] at oL oL2
  rw [← eR] at oR
  have cL : Lv.oneCell' = true := by rw [eL]; rfl
  have cR : Rv.oneCell' = true := by rw [eR]; rfl
  refine a_sel1 (v := Lv) rfl ?_
  refine a_sel1 (v := Rv) rfl ?_
  have lm : ∀ f : Nat → F, ((mapN f d.N).map (fun x : F => x.val)).length = d.N := fun f => by rw [List.length_map, mapN_len]
  have offL : ∀ q, Lv.ownBlock = some q → q ∉ [b2, b2] := fun q hq hm => by
    have := oL2.lt q hq
    have := lo b2 (by simp)
    simp at hm; omega
  have offR : ∀ q, Rv.ownBlock = some q → q ∉ [b2, b2] := fun q hq hm => by
    have := oR.lt q hq
    have := lo b2 (by simp)
    simp at hm; omega
  refine n_W hX.n hS (T := Tfn) (f := 67) rfl ((mapN (a.Lf x) d.N).map (fun f : F => f.val), (mapN (a.Rf x) d.N).map (fun f : F => f.val), ()) (fun w hw => ⟨⟨_, _, rfl, lsF_toS ((own_F oL2).stp hw.stp offL), _, _, rfl, lsF_toS ((own_F oR).stp hw.stp offR), rfl⟩, (lm _).trans (lm _).symm⟩) fun v u3 w3 h3 k3 s3 su3 hq => ?_
  dsimp only at hq
  rw [lm, prF_mm, show sumF' (fun i => a.Lf x i * a.Rf x i) d.N = a.th x by rw [PrA.th, ← ed]] at hq
  subst hq
  rw [ask_ext0, ask_ext1]
  refine a_updC (cs' := vwL P.A P.S P.T1 P.T2 P.y P.z (rF x) 0 0 (a.th x) Lv Rv) (encF (a.th x)) rfl rfl rfl (by rw [vwL_len]; omega) (one_encF _) ?_
  have z3 := su3.size
  have row3 : w3.heap[b]? = some (.cells (P.cells d).toArray 167 (0, 0)) := by
    rw [su3.past b (by omega) nb2, su2.past b (by omega) List.not_mem_nil, su1.past b hbl nb2]; exact hA.row
  have nb2' : b ∉ [b2] := by simp; omega
  refine a_nf hP fdP2 (a_fadP hP fdT0 ?_)
  refine a_ldPrA (encS d.t.1) hP k3 aggS szS row3 nb2' rfl ?_
  refine a_nf hP fdP2 (a_fadP hP fdT1 ?_)
  refine a_ldPrA (encS d.t.2.1) hP k3 aggS szS row3 nb2' rfl ?_
  refine call_PE hS (T := Tfn) (f := 49) rfl (d.t.2.1, x) ⟨hA.okt.2.1, hx⟩ ?_
  dsimp only
  refine call_PE hS (T := Tfn) (f := 29) rfl (d.t.1, _) ⟨hA.okt.1, val_lt _⟩ ?_
  dsimp only
  rw [rF_val, show rF d.t.1 + rF d.t.2.1 * rF x = a.mu x by rw [PrA.mu, ← ed]]
  refine a_updC (cs' := vwL P.A P.S P.T1 P.T2 P.y P.z (rF x) 0 (a.mu x) (a.th x) Lv Rv) (encF (a.mu x)) rfl rfl rfl (by rw [vwL_len]; omega) (one_encF _) ?_
  refine a_nf hP fdP2 (a_fadP hP fdT2 ?_)
  refine a_ldPrA (encS d.t.2.2.1) hP k3 aggS szS row3 nb2 rfl ?_
  refine call_PE hS (T := Tfn) (f := 49) rfl (d.t.2.2.1, x) ⟨hA.okt.2.2.1, hx⟩ ?_
  dsimp only
  refine a_nf hP fdP2 (a_fadP hP fdT3 ?_)
  refine a_ldPrA (encS d.t.2.2.2.1) hP k3 aggS szS row3 nb2 rfl ?_
  refine call_PE hS (T := Tfn) (f := 49) rfl (d.t.2.2.2.1, x) ⟨hA.okt.2.2.2, hx⟩ ?_
  dsimp only
  refine call_PE hS (T := Tfn) (f := 49) rfl (_, x) ⟨val_lt _, hx⟩ ?_
  dsimp only
  refine call_PE hS (T := Tfn) (f := 29) rfl (_, _) ⟨val_lt _, val_lt _⟩ ?_
  dsimp only
  rw [rF_val, rF_val, rF_val, show rF d.t.2.2.1 * rF x + rF d.t.2.2.2.1 * rF x * rF x = a.tx x 0 by rw [PrA.tx, ← ed, sumF']; exact (Lean.Grind.Semiring.add_zero _).symm]
  refine a_updC (cs' := vwL P.A P.S P.T1 P.T2 P.y P.z (rF x) (a.tx x 0) (a.mu x) (a.th x) Lv Rv) (encF (a.tx x 0)) rfl rfl rfl (by rw [vwL_len]; omega) (one_encF _) ?_
  refine a_selL (ds := encF P.z) rfl (by rw [vwL_len]; omega) ?_
  refine a_selL (ds := encF P.z) rfl (by rw [vwL_len]; omega) ?_
  refine call_PE hS (T := Tfn) (f := 49) rfl (P.z.val, P.z.val) ⟨val_lt _, val_lt _⟩ ?_
  dsimp only
  rw [rF_val, show P.z * P.z = fp P.z 2 by rw [show (2 : Nat) = 0 + 1 + 1 from rfl, fp_succ, fp_succ, fp_zero]; grind]
  rw [ask_zero4]; intro b3 hb3
  rw [ask_aggS]
  refine a_nf hP fdP3 ?_
  refine a_ldPr (v := P.vs) hP k3 aggSO row3 (by simp; omega) rfl ?_
  have hv : LsO X.w0 P.vs d.vs := hA.vs
  have hvk : ∀ {w : World}, Kn X w → LsO w P.vs d.vs := fun hk => hv.stp (stp hk) (sep _ (by simp))
  refine a_len hP tyOP hv.1 ?_
  rw [lvs]
  have hb2f : b2 < w3.heap.size := by have := lo b2 (by simp); omega
  refine ⟨fun q w => ∃ (j : Nat), q = [J j, .agg (vwL P.A P.S P.T1 P.T2 P.y P.z (rF x) (a.tx x j) (a.mu x) (a.th x) Lv Rv).toArray, S (fp P.z (2 + j)).val] ∧ j ≤ d.n ∧ Kn X w ∧ Stp [b3, b2] w3 w, fun q _ => match q with | i :: _ => d.n - intNat i | _ => 0,
    fun w hw => ⟨0, rfl, Nat.zero_le _, hw.kn, ⟨hw.stp.size, fun q hq hn => hw.stp.past q hq (by simpa using hn)⟩⟩, ?_⟩
  rintro _ _ _ w ⟨j, he, hj, hk, hsw⟩
  simp only [List.cons.injEq, and_true] at he
  obtain ⟨rfl, rfl, rfl⟩ := he
  have zw := hsw.size
  rw [ask_lssN]
  refine a_ifD (fun hlt => ?_) fun hge => ?_
  · have hO := okO_at hv j
    refine ld_OP hP hk (hvk hk).1 rfl (by omega) (fun _ _ => List.not_mem_nil) ?_
    intro b4 hb4
    refine a_cellsO ?_
    refine a_selL (ds := encF (a.tx x j)) rfl (by rw [vwL_len]; omega) ?_
    refine call_PE hS (T := Tfn) (f := 49) rfl (_, bAt d.vs j) ⟨val_lt _, hO.2⟩ ?_
    dsimp only
    refine call_PE hS (T := Tfn) (f := 29) rfl ((a.tx x j).val, _) ⟨val_lt _, val_lt _⟩ ?_
    dsimp only
    rw [rF_val, rF_val, rF_val, show a.tx x j + fp P.z (2 + j) * rF (bAt d.vs j) = a.tx x (j + 1) by rw [PrA.tx, PrA.tx, ← ed, ← eP, sumF']; grind]
    refine a_updC (cs' := vwL P.A P.S P.T1 P.T2 P.y P.z (rF x) (a.tx x (j + 1)) (a.mu x) (a.th x) Lv Rv) (encF (a.tx x (j + 1))) rfl rfl rfl (by rw [vwL_len]; omega) (one_encF _) ?_
    refine a_selL (ds := encF P.z) rfl (by rw [vwL_len]; omega) ?_
    refine call_PE hS (T := Tfn) (f := 49) rfl ((fp P.z (2 + j)).val, P.z.val) ⟨val_lt _, val_lt _⟩ ?_
    dsimp only
    rw [rF_val, rF_val, ← fp_succ, ask_aggS, ask_succ (by omega)]
    intro w6 hw6
    have h6 := hsw.trans hw6.stp
    refine ⟨⟨j + 1, by rw [Nat.add_assoc], hlt, hw6.kn, ⟨h6.size, fun q hq hn => h6.past q hq (by simp at hn ⊢; omega)⟩⟩, by simp [intNat]; omega⟩
  · obtain rfl : j = d.n := by omega
    have hbw : w.heap[b]? = some (.cells (P.cells d).toArray 167 (0, 0)) := by
      rw [hsw.past b (by omega) (by simp; omega)]; exact row3
    refine a_nf hP fdP0 ?_
    obtain ⟨P6, eP6⟩ : ∃ P6 : Pr, P6 = { P with ph := 3 } := ⟨_, rfl⟩
    refine a_stPr (P := P) (P' := P6) [J 3] hX.n hP szIn1 rfl rfl rfl rfl rfl hbw List.not_mem_nil hmine (by simp [kb39_3]; omega) (by decide) (by rw [eP6]; rfl) fun _ w7 k7 s7 _ => ?_
    refine a_agg (vwL_len _ _ _ _ _ _ _ _ _ _ _ _) (vwL_one cL cR) ?_
    have s7' : Stp [b2, b2, b3, b2, b, b1] w2 w7 := by
      have h1 := (su3.trans hsw).trans s7
      exact ⟨h1.size, fun q hq hn => h1.past q hq (by simp at hn ⊢; omega)⟩
    have offA : ∀ {v : Value} {base : Nat} {wq : World} {xs : List Value} {n e s : Nat}, wq.ownsRow base e s v n xs → u1.heap.size ≤ base → wq.heap.size ≤ w2.heap.size → ∀ q, v.ownBlock = some q → q ∉ [b2, b2, b3, b2, b, b1] ∧ q ∉ [b1] := fun ho hb hq q hv => by
      have h1 := ho.lt q hv
      have h2 := lo b2 (by simp)
      have h3 := lo b1 (by simp)
      refine ⟨fun hm => ?_, fun hm => ?_⟩
      · simp at hm; omega
      · simp at hm; omega
    refine hR _ _ _ _ fun wf hwf x' ess => ?_
    simp only [List.cons.injEq, and_true] at ess
    subst ess
    rw [← ed, ← eP]
    have f1 := fun q hq => (offA oL2 (by omega) (by omega) q hq)
    have f2 := fun q hq => (offA oR (by omega) (by omega) q hq)
    exact ⟨Lv, Rv, rfl, own_mono (own_stp (own_stp oL2 s7' fun q hq => (f1 q hq).1) hwf.stp fun q hq => (f1 q hq).2) (by omega), own_mono (own_stp (own_stp oR s7' fun q hq => (f2 q hq).1) hwf.stp fun q hq => (f2 q hq).2) (by omega)⟩
#print axioms keepsFin
end Go.Vc
