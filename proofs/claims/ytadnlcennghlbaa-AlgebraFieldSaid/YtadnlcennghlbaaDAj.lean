/-
  Interpolate over Seven.
-/
import Derived.Test.YtadnlcennghlbaaDAi
import Derived.Test.YtadnlcennghlbaaDAg
namespace Go.Vc
open Go Go.Proofs Go.RowKit
/-! ### same, sevens -/
def ann28 : Ann := ⟨[], [], 70, [], [], none, [], []⟩
theorem vc28 (X : Ctx) (β : Nat → Nat) (x0 x1 : Value) : (run Try.prog ann28 28 [.l [.v 0], .l [.v 1]] [] [] 3).den X (env0 [x0, x1] X.w0) 3 β 0 (fun _ _ _ => False) = (
 AskNew X.w0 fun _ =>
 AskNew X.w0 fun _ =>
 Ask (rGen X.P (Op.makeInterface 27 (Operand.tmp 5)) 20 [(5, (.agg #[x0]))]) fun x3 =>
 AskI X x3 "Sub" [(.agg #[x1])] fun x4 =>
 Ask (rGen X.P (Op.makeInterface 27 (Operand.tmp 8)) 20 [(8, x4)]) fun x5 =>
 AskI X x5 "IsZero" [] fun x6 =>
 Ret X X.w0 [] [] x6) := by kernel_rfl
def c7Sm : Contract := fnP enc2S7 (fun _ => True) (fun p v => v = .bool (decide (sR.sub p.1 p.2 % 7 = 0)))
theorem keeps7Sm : Keeps1 Try.prog GA 28 c7Sm := by
  refine keepsP (T := TA7a) (A := ann28) inj2S7 hMix keepTA7a hGA (calls_of (by kernel_rfl)) (callsW_of (by kernel_rfl)) fun ⟨a, b⟩ w0 _ _ => ⟨[.l [.v 0], .l [.v 1]], [], [], 3, env0 [.int .i64 a, .int .i64 b] w0, fun b => b, 0, rfl, rfl, fun X hX => mem_none hX rfl, fun X hP hS hw hX hR => ?_⟩
  subst hw; try dsimp only at hR
  rw [vc28 X]
  intro _ _ _ _
  refine a_mk7 hP (i_7Sub hP hS a b ?_)
  refine a_mk7 hP (i_7IsZ hP hS _ ?_)
  exact hR _ _ _ _ rfl
theorem same_iff {a b : Int} : sR.sub a b % 7 = 0 ↔ fs7 a = fs7 b := by
  rw [fs7, fs7, rI_eq]
  show (a % 7 - b % 7) % 7 = 0 ↔ a % 7 = b % 7
  omega
def ann7 : Ann := ⟨[(3, ([3, 4], []))], [], 70, [], [], none, [], []⟩
theorem vc7 (X : Ctx) (β : Nat → Nat) (x0 : Value) : (run Try.prog ann7 7 [.x (.v 0)] [] [] 2).den X (env0 [x0] X.w0) 2 β 0 (fun _ _ _ => False) = (
 ∃ (I0 : List Value → World → Prop) (μ0 : List Value → World → Nat), (∀ w, KnownV X X.w0 [] [] w → I0 [(.slice none 0 0), (J 0)] w) ∧ ∀ x2 x3 w4, I0 [x2, x3] w4 →
 Ask (rLen X.P 22 x0) fun x5 =>
 Ask (rBin X.P .lss 3 false false x3 x5) fun x6 =>
 AskG [(x6, true)] (rBin X.P .lss 3 false true x3 (J 40)) fun x7 =>
 Ask (rPick x6 x7 (.bool false)) fun x8 =>
 (∃ t, x8 = .bool t) ∧ (x8 = .bool true →
 Ask (rIad X.P 22 x0 x3) fun x9 =>
 Ask (rLoad X w4 [] 3 x9) fun x10 =>
 Ask (rPlain x10) fun x11 =>
 AskO X w4 [] [] false (Op.buildSlice 24 1 #[(0, Operand.tmp 20)]) 24 [(20, (.agg #[x11]))] fun x12 w12 =>
 AskO X w12 [] [] true (appOp (.tmp 15) (.tmp 21) 24) 24 [(15, x2), (21, x12)] fun x13 w13 =>
 Ask (rBin X.P .add 3 false true x3 (J 1)) fun x14 =>
 Again X w13 [] [] fun w => I0 [x13, x14] w ∧ μ0 [x13, x14] w < μ0 [x2, x3] w4) ∧ (x8 = .bool false →
 Ret X w4 [] [] x2)) := by kernel_rfl
def c7Ss : Contract := fnW (Cods.cons cLI Cods.nil) (fun _ _ => True) (fun p w v w' => w'.ownsRow w.heap.size 27 1 v (p.1.take 40).length ((p.1.take 40).flatMap encS7))
theorem take_tab (l : List Int) (i : Nat) (h : i ≤ l.length) : l.take i = tabN (fun j => l.getD j 0) i := by
  apply List.ext_getElem?
  intro j
  rcases Nat.lt_or_ge j i with hj | hj
  · rw [tabN_at _ hj, List.getElem?_take_of_lt hj, List.getD_eq_getElem?_getD, List.getElem?_eq_getElem (by omega)]; rfl
  · rw [List.getElem?_eq_none (l := List.take i l) (by simp; omega), List.getElem?_eq_none (l := tabN _ i) (by rw [tabN_len]; exact hj)]
theorem keeps7Ss : Keeps1 Try.prog GA 7 c7Ss := by
  refine keepsW (T := TA0) (A := ann7) hMix keepTA0 hGA (calls_of (by kernel_rfl)) (callsW_of (by kernel_rfl)) fun args ⟨l, _⟩ w0 hrd hpre hg => ?_
  obtain ⟨v, _, rfl, hl, rfl⟩ := hrd
  replace hl : LsI w0 v l := hl
  refine ⟨[.x (.v 0)], [], [], 2, env0 [v] w0, fun b => b, 0, rfl, rfl, fun X hX => mem_none hX rfl, fun X hP hS hw hX hR => ?_⟩
  subst hw; try dsimp only at hR
  rw [vc7 X]
  refine ⟨fun q w => ∃ i v, q = [v, J i] ∧ i ≤ min 40 l.length ∧ Kn X w ∧ w.ownsRow X.w0.heap.size 27 1 v i ((tabN (fun j => l.getD j 0) i).flatMap encS7), fun q _ => match q with | [_, i] => 40 - intNat i | _ => 0, fun w hw => ⟨0, _, rfl, Nat.zero_le _, hw.kn, World.ownsRow_nil _ _ _ _⟩, ?_⟩
  rintro _ _ w ⟨i, v', he, hi, hk, ho⟩
  simp only [List.cons.injEq, and_true] at he
  obtain ⟨rfl, rfl⟩ := he
  refine a_len hP tyI hl.1 ?_
  rw [ask_lssN]
  refine a_andA (d := decide (i < 40)) (fun _ K' hK => by rw [ask_lssN]; exact hK) ?_
  refine a_if (fun h => ?_) fun h => ?_
  · have hlt : i < l.length ∧ i < 40 := by simpa using h
    have hl' : LsI w v l := hl.stp0 (hk.stp0 hX)
    refine ld_I hP hk hl' hlt.1 (fun _ _ => List.not_mem_nil) ?_
    refine a_plain rfl ?_
    refine a_push (k := 1) (encS7 (l.getD i 0)).toArray hX hP ty7 (by decide) rfl (by decide) (by decide) (by decide) (by kernel_rfl) rfl (by simp [encS7, Value.oneCell']) rfl (Nat.le_refl _) hk.sz0 ho (by unfold maxLen; omega) (by omega) fun v2 w2 hk2 hs2 ho2 _ => ?_
    rw [ask_succ (by omega)]
    intro w3 hw3
    refine ⟨⟨i + 1, v2, rfl, by omega, hw3.kn, ?_⟩, by simp [intNat]; omega⟩
    rw [tabN_succ, List.flatMap_append]
    have := own_stp0 ho2 hw3.stp
    simpa using this
  · have hge : i < l.length → 40 ≤ i := by simpa using h
    obtain rfl : i = min 40 l.length := by omega
    refine hR _ _ _ _ fun w2 hw2 => ?_
    show w2.ownsRow _ _ _ _ (l.take 40).length _
    have e : l.take 40 = tabN (fun j => l.getD j 0) (min 40 l.length) := by
      rw [← take_tab l _ (by omega), List.take_eq_take_iff]; omega
    rw [e, tabN_len]
    exact own_stp0 ho hw2.stp
/-! ### Interpolate -/
def ann22 : Ann := ⟨[(4, ([4, 5, 29], [])), (7, ([4, 5, 33], [])), (17, ([8, 58], [])), (25, ([81], [])), (32, ([108], [])), (36, ([125], []))], [28], 70, [(29, false), (30, false), (23, false), (31, false)], [], none, [], []⟩
def kb22_0 (b0 b1 : Nat) (x27 : Value) : List KB := [⟨b0, true, 27, #[x27]⟩, ⟨b1, true, 27, #[(J 0)]⟩]
def kb22_1 (b0 : Nat) (x35 : Value) : List KB := [⟨b0, true, 27, #[x35]⟩]
def kb22_2 (b0 b1 : Nat) (x42 x48 : Value) : List KB := [⟨b0, true, 27, #[x42]⟩, ⟨b1, true, 27, #[x48]⟩]
def kb22_3 (b0 b1 b2 : Nat) (x42 x48 x58 : Value) : List KB := [⟨b0, true, 27, #[x42]⟩, ⟨b1, true, 27, #[x48]⟩, ⟨b2, true, 27, #[x58]⟩]
theorem vc22 (X : Ctx) (β : Nat → Nat) (x0 x1 : Value) : (run Try.prog ann22 22 [.x (.v 0), .x (.v 1)] [] [] 3).den X (env0 [x0, x1] X.w0) 3 β 0 (fun _ _ _ => False) = (
 Ask (rLen X.P 24 x0) fun x3 =>
 Ask (rLen X.P 24 x1) fun x4 =>
 Ask (rBin X.P .neq 3 false false x3 x4) fun x5 =>
 (∃ t, x5 = .bool t) ∧ (x5 = .bool true →
 Ret X X.w0 [] [] (.tuple #[(.slice none 0 0), (J 2)])) ∧ (x5 = .bool false →
 Ask (rLen X.P 24 x0) fun x6 =>
 ∃ (I0 : List Value → World → Prop) (μ0 : List Value → World → Nat), (∀ w, KnownV X X.w0 [] [] w → I0 [(.slice none 0 0), (J 0), (J 0)] w) ∧ ∀ x7 x8 x9 w10, I0 [x7, x8, x9] w10 →
 Ask (rBin X.P .lss 3 false false x9 x6) fun x11 =>
 (∃ t, x11 = .bool t) ∧ (x11 = .bool true →
 ∃ (I1 : List Value → World → Prop) (μ1 : List Value → World → Nat), (∀ w, KnownV X w10 [] [] w → I1 [x7, x8, (J 0)] w) ∧ ∀ x12 x13 x14 w15, I1 [x12, x13, x14] w15 →
 Ask (rBin X.P .lss 3 false false x14 x9) fun x16 =>
 (∃ t, x16 = .bool t) ∧ (x16 = .bool true →
 Ask (rIad X.P 24 x0 x9) fun x17 =>
 Ask (rLoad X w15 [] 27 x17) fun x18 =>
 Ask (rIad X.P 24 x0 x14) fun x19 =>
 Ask (rLoad X w15 [] 27 x19) fun x20 =>
 AskF X 28 [x18, x20] fun x21 =>
 (∃ t, x21 = .bool t) ∧ (x21 = .bool true →
 Ret X w15 [] [] (.tuple #[(.slice none 0 0), (J 60)])) ∧ (x21 = .bool false →
 Ask (rBin X.P .add 3 false true x14 (J 1)) fun x22 =>
 Again X w15 [] [] fun w => I1 [x12, x13, x22] w ∧ μ1 [x12, x13, x22] w < μ1 [x12, x13, x14] w15)) ∧ (x16 = .bool false →
 Ask (rBin X.P .add 3 false true x9 (J 1)) fun x17 =>
 Again X w15 [] [] fun w => I0 [x12, x13, x17] w ∧ μ0 [x12, x13, x17] w < μ0 [x7, x8, x9] w10)) ∧ (x11 = .bool false →
 Ask (rLen X.P 24 x0) fun x12 =>
 Ask (rBin X.P .eql 3 false true x12 (J 0)) fun x13 =>
 (∃ t, x13 = .bool t) ∧ (x13 = .bool true →
 Ret X w10 [] [] (.tuple #[(.slice none 0 0), (J 0)])) ∧ (x13 = .bool false →
 Ask (rIad X.P 24 x0 (J 0)) fun x14 =>
 Ask (rLoad X w10 [] 27 x14) fun x15 =>
 Ask (rGen X.P (Op.makeInterface 27 (Operand.tmp 52)) 20 [(52, x15)]) fun x16 =>
 AskI X x16 "One" [] fun x17 =>
 AskO X w10 [] [] false (Op.buildSlice 24 1 #[(0, Operand.tmp 54)]) 24 [(54, x17)] fun x18 w18 =>
 Ask (rLen X.P 24 x0) fun x19 =>
 ∃ (I0 : List Value → World → Prop) (μ0 : List Value → World → Nat), (∀ w, KnownV X w18 [] [] w → I0 [x18, (J 0)] w) ∧ ∀ x20 x21 w22, I0 [x20, x21] w22 →
 Ask (rBin X.P .lss 3 false false x21 x19) fun x23 =>
 (∃ t, x23 = .bool t) ∧ (x23 = .bool true →
 Ask (rIad X.P 24 x0 x21) fun x24 =>
 Ask (rLoad X w22 [] 27 x24) fun x25 =>
 AskNew w22 fun b0 =>
 Ask (rAgg 1 x25) fun x26 =>
 Ask (rSel (aggArr x26) 0 1 false) fun x27 =>
 AskNew w22 fun b1 =>
 Ask (rGen X.P (Op.makeInterface 27 (Operand.tmp 63)) 20 [(63, (.agg #[(J 0)]))]) fun x28 =>
 AskI X x28 "Sub" [(.agg #[x27])] fun x29 =>
 Ask (rGen X.P (Op.makeInterface 27 (Operand.tmp 67)) 20 [(67, (.agg #[x27]))]) fun x30 =>
 AskI X x30 "One" [] fun x31 =>
 AskO X w22 [b0] (kb22_0 b0 b1 x27) false (Op.buildSlice 24 2 #[(0, Operand.tmp 66), (1, Operand.tmp 69)]) 24 [(66, x29), (69, x31)] fun x32 w32 =>
 AskW X w32 [] (kb22_0 b0 b1 x27) false 29 [x20, x32] fun x33 w33 =>
 Ask (rBin X.P .add 3 false true x21 (J 1)) fun x34 =>
 Again X w33 [] [] fun w => I0 [x33, x34] w ∧ μ0 [x33, x34] w < μ0 [x20, x21] w22) ∧ (x23 = .bool false →
 Ask (rLen X.P 24 x0) fun x24 =>
 AskO X w22 [] [] false (Op.makeSlice 28 (Operand.tmp 74) (Operand.tmp 74)) 28 [(74, x24), (74, x24)] fun x25 w25 =>
 Ask (rLen X.P 24 x0) fun x26 =>
 AskO X w25 [] [] false (Op.makeSlice 24 (Operand.tmp 77) (Operand.tmp 77)) 24 [(77, x26), (77, x26)] fun x27 w27 =>
 Ask (rLen X.P 24 x0) fun x28 =>
 ∃ (I0 : List Value → World → Prop) (μ0 : List Value → World → Nat), (∀ w, KnownV X w27 [] [] w → I0 [(J 0)] w) ∧ ∀ x29 w30, I0 [x29] w30 →
 Ask (rBin X.P .lss 3 false false x29 x28) fun x31 =>
 (∃ t, x31 = .bool t) ∧ (x31 = .bool true →
 Ask (rIad X.P 24 x0 x29) fun x32 =>
 Ask (rLoad X w30 [] 27 x32) fun x33 =>
 AskNew w30 fun b0 =>
 Ask (rAgg 1 x33) fun x34 =>
 Ask (rSel (aggArr x34) 0 1 false) fun x35 =>
 AskW X w30 [b0] (kb22_1 b0 x35) false 30 [x20, (.agg #[x35])] fun x36 w36 =>
 Ask (rIad X.P 28 x25 x29) fun x37 =>
 AskO X w36 [] (kb22_1 b0 x35) true (Op.store 24 (Operand.tmp 91) (Operand.tmp 90)) 0 [(91, x37), (90, x36)] fun _ w38 =>
 Ask (rIad X.P 28 x25 x29) fun x39 =>
 Ask (rLoad X w38 [] 24 x39) fun x40 =>
 AskW X w38 [] (kb22_1 b0 x35) false 23 [x40, (.agg #[x35])] fun x41 w41 =>
 Ask (rIad X.P 24 x27 x29) fun x42 =>
 AskO X w41 [] (kb22_1 b0 x35) true (Op.store 27 (Operand.tmp 100) (Operand.tmp 99)) 0 [(100, x42), (99, x41)] fun _ w43 =>
 Ask (rBin X.P .add 3 false true x29 (J 1)) fun x44 =>
 Again X w43 [] [] fun w => I0 [x44] w ∧ μ0 [x44] w < μ0 [x29] w30) ∧ (x31 = .bool false →
 Ask (rLen X.P 24 x0) fun x32 =>
 AskO X w30 [] [] false (Op.makeSlice 24 (Operand.tmp 103) (Operand.tmp 103)) 24 [(103, x32), (103, x32)] fun x33 w33 =>
 AskW X w33 [] [] false 31 [x27] fun x34 w34 =>
 Ask (rLen X.P 24 x34) fun x35 =>
 ∃ (I0 : List Value → World → Prop) (μ0 : List Value → World → Nat), (∀ w, KnownV X w34 [] [] w → I0 [(J 0)] w) ∧ ∀ x36 w37, I0 [x36] w37 →
 Ask (rBin X.P .lss 3 false false x36 x35) fun x38 =>
 (∃ t, x38 = .bool t) ∧ (x38 = .bool true →
 Ask (rIad X.P 24 x34 x36) fun x39 =>
 Ask (rLoad X w37 [] 27 x39) fun x40 =>
 AskNew w37 fun b0 =>
 Ask (rAgg 1 x40) fun x41 =>
 Ask (rSel (aggArr x41) 0 1 false) fun x42 =>
 Ask (rIad X.P 24 x1 x36) fun x43 =>
 Ask (rLoad X w37 [b0] 27 x43) fun x44 =>
 Ask (rGen X.P (Op.makeInterface 27 (Operand.tmp 116)) 20 [(116, x44)]) fun x45 =>
 AskI X x45 "Mul" [(.agg #[x42])] fun x46 =>
 AskNew w37 fun b1 =>
 Ask (rAgg 1 x46) fun x47 =>
 Ask (rSel (aggArr x47) 0 1 false) fun x48 =>
 Ask (rIad X.P 28 x25 x36) fun x49 =>
 Ask (rLoad X w37 [b1, b0] 24 x49) fun x50 =>
 Ask (rLen X.P 24 x50) fun x51 =>
 ∃ (I1 : List Value → World → Prop) (μ1 : List Value → World → Nat), (∀ w, KnownV X w37 [b1, b0] (kb22_2 b0 b1 x42 x48) w → I1 [(J 0)] w) ∧ ∀ x52 w53, I1 [x52] w53 →
 Ask (rBin X.P .lss 3 false false x52 x51) fun x54 =>
 (∃ t, x54 = .bool t) ∧ (x54 = .bool true →
 Ask (rIad X.P 24 x50 x52) fun x55 =>
 Ask (rLoad X w53 [] 27 x55) fun x56 =>
 AskNew w53 fun b2 =>
 Ask (rAgg 1 x56) fun x57 =>
 Ask (rSel (aggArr x57) 0 1 false) fun x58 =>
 Ask (rIad X.P 24 x33 x52) fun x59 =>
 Ask (rLoad X w53 [b2] 27 x59) fun x60 =>
 Ask (rGen X.P (Op.makeInterface 27 (Operand.tmp 135)) 20 [(135, x60)]) fun x61 =>
 Ask (rGen X.P (Op.makeInterface 27 (Operand.tmp 137)) 20 [(137, (.agg #[x48]))]) fun x62 =>
 AskI X x62 "Mul" [(.agg #[x58])] fun x63 =>
 AskI X x61 "Add" [x63] fun x64 =>
 Ask (rIad X.P 24 x33 x52) fun x65 =>
 AskO X w53 [b2] (kb22_3 b0 b1 b2 x42 x48 x58) true (Op.store 27 (Operand.tmp 142) (Operand.tmp 141)) 0 [(142, x65), (141, x64)] fun _ w66 =>
 Ask (rBin X.P .add 3 false true x52 (J 1)) fun x67 =>
 Again X w66 [] [] fun w => I1 [x67] w ∧ μ1 [x67] w < μ1 [x52] w53) ∧ (x54 = .bool false →
 Ask (rBin X.P .add 3 false true x36 (J 1)) fun x55 =>
 Again X w53 [] [] fun w => I0 [x55] w ∧ μ0 [x55] w < μ0 [x36] w37)) ∧ (x38 = .bool false →
 Ret X w37 [] [] (.tuple #[x33, (J 0)])))))))) := by kernel_rfl
def Twice (xs : List Int) : Prop := ∃ i j, j < i ∧ i < xs.length ∧ cf xs i = cf xs j
theorem unlike_of {xs : List Int} (h : ¬ Twice xs) : Unlike (cf xs) xs.length := fun i j hi hj hij e => by
  rcases Nat.lt_or_gt_of_ne hij with h1 | h1
  · exact h ⟨j, i, h1, hj, e.symm⟩
  · exact h ⟨i, j, h1, hi, e⟩
def c7Ip : Contract := fnW (Cods.cons cL7 (Cods.cons cL7 Cods.nil)) (fun p _ => p.1.length ≤ 40 ∧ p.2.1.length = p.1.length) (fun p w v w' => (Twice p.1 → v = .tuple #[.slice none 0 0, J 60]) ∧ (¬ Twice p.1 → ∃ x, v = .tuple #[x, J 0] ∧ w'.ownsRow w.heap.size 27 1 x p.1.length ((interpA p.1 p.2.1).flatMap encS7)))
def TA7i : Table := ((((TA7a.add 29 c7Pr).add 30 c7Wo).add 23 c7Ev).add 31 c7Ia).add 28 c7Sm
theorem keepTA7i : AllKeep Try.prog GA TA7i := ((((keepTA7a.add keeps7Pr).add keeps7Wo).add keeps7Ev).add keeps7Ia).add keeps7Sm
section
variable {X : Ctx} {K : Value → Prop} (hP : X.P = Try.prog) (hS : X.S = TA7i.spec)
include hP hS
theorem j_7Mul (a b : Int) (hK : K (S7 (sR.mul a b))) : AskI X (.iface 27 (S7 a)) "Mul" [S7 b] K := call_I hP hS (T := TA7i) (f := 50) rfl (a, b) (meth7Mul a b) trivial hK
theorem j_7Add (a b : Int) (hK : K (S7 (sR.add a b))) : AskI X (.iface 27 (S7 a)) "Add" [S7 b] K := call_I hP hS (T := TA7i) (f := 47) rfl (a, b) (meth7Add a b) trivial hK
theorem j_7Sub (a b : Int) (hK : K (S7 (sR.sub a b))) : AskI X (.iface 27 (S7 a)) "Sub" [S7 b] K := call_I hP hS (T := TA7i) (f := 52) rfl (a, b) (meth7Sub a b) trivial hK
theorem j_7One (a : Int) (hK : K (S7 1)) : AskI X (.iface 27 (S7 a)) "One" [] K := call_I hP hS (T := TA7i) (f := 51) rfl a (meth7One a) trivial hK
end
/-- The quotients' lists, in an outer list's places. -/
structure Rests (lo hi : Nat) (w : World) (xs : List Int) (n : Nat) (V : Nat → Value) : Prop where
  at_ : ∀ j, j < n → SlAt w (V j) xs.length ((restA xs j).flatMap encS7)
  lo_ : ∀ j, j < n → ∀ g, (V j).ownBlock = some g → lo ≤ g ∧ g < hi
theorem Rests.stp {lo hi : Nat} {w w' : World} {xs : List Int} {n : Nat} {V : Nat → Value} {ex : List Nat} (h : Rests lo hi w xs n V) (hs : Stp ex w w') (he : ∀ b ∈ ex, b < lo ∨ hi ≤ b) : Rests lo hi w' xs n V :=
  ⟨fun j hj => (h.at_ j hj).stp hs fun g hg hm => by
    have h1 := h.lo_ j hj g hg
    have h2 := he g hm
    omega, h.lo_⟩
theorem acc0 (xs ys : List Int) (n : Nat) : tabN (fun _ => sR.zero) n = tabN (accA xs ys 0) n := rfl
def accK (xs ys : List Int) (i k j : Nat) : Int := if j < k then accA xs ys (i + 1) j else accA xs ys i j
theorem accK_set (xs ys : List Int) (i k n : Nat) : (tabN (accK xs ys i k) n).set k (accA xs ys (i + 1) k) = tabN (accK xs ys i (k + 1)) n := by
  rw [tabN_set]
  refine tabN_congr fun j hj => ?_
  unfold accK
  by_cases e : j = k
  · subst e; rw [if_pos rfl, if_pos (by omega)]
  · rw [if_neg e]
    by_cases q : j < k
    · rw [if_pos q, if_pos (by omega)]
    · rw [if_neg q, if_neg (by omega)]
def atK (xs : List Int) (i j : Nat) : Int := if j < i then sR.eval (restA xs j) (xs.getD j 0) else 0
theorem atK_set (xs : List Int) (i n : Nat) : (tabN (atK xs i) n).set i (sR.eval (restA xs i) (xs.getD i 0)) = tabN (atK xs (i + 1)) n := by
  rw [tabN_set]
  refine tabN_congr fun j hj => ?_
  unfold atK
  by_cases e : j = i
  · subst e; rw [if_pos rfl, if_pos (by omega)]
  · rw [if_neg e]
    by_cases q : j < i
    · rw [if_pos q, if_pos (by omega)]
    · rw [if_neg q, if_neg (by omega)]
theorem set_tab (f : Nat → Value) (i n : Nat) (x : Value) : lset (tabN f n) i [x] = tabN (fun j => if j = i then x else f j) n ∨ n ≤ i := by
  rcases Nat.lt_or_ge i n with h | h
  · left
    rw [← tabN_set]
    unfold lset
    rw [List.set_eq_take_append_cons_drop, if_pos (by rw [tabN_len]; exact h)]
    simp
  · exact .inr h
set_option maxHeartbeats 4000000 in
theorem keeps7Ip : Keeps1 Try.prog GA 22 c7Ip := by
  refine keepsW (T := TA7i) (A := ann22) hMix keepTA7i hGA (calls_of (by kernel_rfl)) (callsW_of (by kernel_rfl)) fun args ⟨xs, ys, _⟩ w0 hrd hpre hg => ?_
  obtain ⟨vx, _, rfl, hx, vy, _, rfl, hy, rfl⟩ := hrd
  replace hx : Ls7 w0 vx xs := hx
  replace hy : Ls7 w0 vy ys := hy
  dsimp only at hpre
  obtain ⟨hn40, hlen⟩ := hpre
  refine ⟨[.x (.v 0), .x (.v 1)], [], [], 3, env0 [vx, vy] w0, fun b => b, 0, rfl, rfl, fun X hX => mem_none hX rfl, fun X hP hS hw hX hR => ?_⟩
  subst hw; try dsimp only at hR
  rw [vc22 X]
  refine a_len hP ty7 hx.1 (a_len hP ty7 hy.1 ?_)
  rw [ask_neqN, hlen, decide_eq_true rfl]
  refine a_if (fun h => by cases h) fun _ => ?_
  refine a_len hP ty7 hx.1 ?_
  obtain ⟨n, hn⟩ : ∃ n, n = xs.length := ⟨_, rfl⟩
  have x0 : ∀ {u : World}, Kn X u → SlAt u vx xs.length (xs.flatMap encS7) := fun hk => hx.1.stp0 (hk.stp0 hX)
  rw [← hn]
  -- unlike?
  refine ⟨fun q w => ∃ i a b, q = [a, b, J i] ∧ i ≤ n ∧ Kn X w ∧ ∀ i', i' < i → ∀ j, j < i' → cf xs i' ≠ cf xs j, fun q _ => match q with | [_, _, i] => n - intNat i | _ => 0, fun w hw => ⟨0, _, _, rfl, Nat.zero_le _, hw.kn, fun i' h => by omega⟩, ?_⟩
  rintro _ _ _ w10 ⟨i, a, b, he, hi, hk10, hno⟩
  simp only [List.cons.injEq, and_true] at he
  obtain ⟨rfl, rfl, rfl⟩ := he
  rw [ask_lssN]
  refine a_ifD (fun hlt => ?_) fun hge => ?_
  · refine ⟨fun q w => ∃ j a b, q = [a, b, J j] ∧ j ≤ i ∧ Kn X w ∧ ∀ j', j' < j → cf xs i ≠ cf xs j', fun q _ => match q with | [_, _, j] => i - intNat j | _ => 0, fun w hw => ⟨0, _, _, rfl, Nat.zero_le _, hw.kn, fun i' h => by omega⟩, ?_⟩
    rintro _ _ _ w15 ⟨j, a, b, he, hj, hk15, hno2⟩
    simp only [List.cons.injEq, and_true] at he
    obtain ⟨rfl, rfl, rfl⟩ := he
    rw [ask_lssN]
    refine a_ifD (fun hlj => ?_) fun hgj => ?_
    · refine ld_S7 hP hk15 (x0 hk15) (by omega) (fun _ _ => List.not_mem_nil) ?_
      refine ld_S7 hP hk15 (x0 hk15) (by omega) (fun _ _ => List.not_mem_nil) ?_
      refine call_PE hS (T := TA7i) (f := 28) rfl (xs.getD i 0, xs.getD j 0) trivial ?_
      dsimp only
      refine a_ifD (fun h => ?_) fun h => ?_
      · exact hR _ _ _ _ fun _ _ => ⟨fun _ => rfl, fun h' => absurd ⟨i, j, hlj, by omega, same_iff.1 h⟩ h'⟩
      · rw [ask_succ (by omega)]
        intro w2 hw2
        refine ⟨⟨j + 1, _, _, rfl, hlj, hw2.kn, fun j' hj' => ?_⟩, by simp [intNat]; omega⟩
        by_cases e : j' = j
        · subst e; exact fun h' => h (same_iff.2 h')
        · exact hno2 j' (by omega)
    · rw [ask_succ (by omega)]
      intro w2 hw2
      refine ⟨⟨i + 1, _, _, rfl, hlt, hw2.kn, fun i' hi' => ?_⟩, by simp [intNat]; omega⟩
      by_cases e : i' = i
      · subst e; exact fun j' hj' => hno2 j' (by omega)
      · exact hno i' (by omega)
  obtain rfl : i = n := by omega
  have htw : ¬ Twice xs := fun ⟨i', j', h1, h2, h3⟩ => hno i' (by omega) j' h1 h3
  have hu := unlike_of htw
  refine a_len hP ty7 hx.1 ?_
  rw [← hn, ask_eqlN]
  refine a_ifD (fun h0 => ?_) fun hne => ?_
  · refine hR _ _ _ _ fun w hw => ⟨fun h => absurd h htw, fun _ => ⟨_, rfl, ?_⟩⟩
    show w.ownsRow _ _ _ _ xs.length _
    rw [interpA, ← hn, h0]
    exact World.ownsRow_nil _ _ _ _
  refine ld_S7 (i := 0) hP hk10 (x0 hk10) (by omega) (fun _ _ => List.not_mem_nil) ?_
  refine a_mk7 hP (j_7One hP hS _ ?_)
  refine a_build #[J 1] hX hP ty7 (by decide) (by decide) (by kernel_rfl) rfl (by decide) fun g18 u18 w18 h18 k18 s18 su18 o18 => ?_
  have z18 : X.w0.heap.size ≤ u18.heap.size := h18.sz0
  refine a_len hP ty7 hx.1 ?_
  rw [← hn]
  refine ⟨fun q w => ∃ j v, q = [v, J j] ∧ j ≤ i ∧ Kn X w ∧ w.ownsRow X.w0.heap.size 27 1 v (allA xs j).length ((allA xs j).flatMap encS7), fun q _ => match q with | [_, j] => i - intNat j | _ => 0, fun w hw => ⟨0, _, rfl, Nat.zero_le _, hw.kn, own_mono (own_stp0 o18 hw.stp) z18⟩, ?_⟩
  rintro va _ w22 ⟨j, _, he, hj, hk22, oa⟩
  simp only [List.cons.injEq, and_true] at he
  obtain ⟨rfl, rfl⟩ := he
  rw [ask_lssN]
  refine a_ifD (fun hlt => ?_) fun hge => ?_
  · refine ld_S7 hP hk22 (x0 hk22) (by omega) (fun _ _ => List.not_mem_nil) ?_
    intro b0 hb0
    refine a_S7 (a_sel1 rfl ?_)
    intro b1 hb1
    refine a_mk7 hP (j_7Sub hP hS 0 (xs.getD j 0) ?_)
    refine a_mk7 hP (j_7One hP hS _ ?_)
    refine a_build ([sR.sub 0 (xs.getD j 0), 1].flatMap encS7).toArray hX hP ty7 (by decide) (by decide) (by kernel_rfl) rfl (by decide) fun g32 u32 w32 h32 k32 s32 su32 o32 => ?_
    have oa32 := own_stp oa su32 (own_off0 oa hb0)
    refine call_W hX hS (T := TA7i) (f := 29) rfl (allA xs j, [sR.sub 0 (xs.getD j 0), 1], ()) (fun w hw => ⟨⟨_, _, rfl, ⟨(own_slAt oa32).stp0 hw.stp, fun _ _ => trivial⟩, _, _, rfl, ⟨(own_slAt o32).stp0 hw.stp, fun _ _ => trivial⟩, rfl⟩, by show (allA xs j).length ≤ 1000; rw [all_len]; omega, show 2 ≤ 1000 by decide⟩) fun v u33 w33 h33 k33 s33 su33 ho => ?_
    dsimp only at ho
    rw [ask_succ (by omega)]
    intro w2 hw2
    exact ⟨⟨j + 1, v, rfl, hlt, hw2.kn, own_mono (own_stp0 ho hw2.stp) h33.sz0⟩, by simp [intNat]; omega⟩
  obtain rfl : j = i := by omega
  have eall : allA xs j = allA xs xs.length := by rw [hn]
  rw [eall] at oa
  refine a_len hP ty7 hx.1 ?_
  rw [← hn]
  refine a_make (n := j) hX hP ty77 (by simp [argsFn]) (by simp [argsFn]) (by omega) (by unfold maxLen; omega) fun gR u25 w25 h25 k25 s25 su25 oR => ?_
  have mR : (madeCells (Value.slice none 0 0).cells (j * 1)).toList = List.replicate j (.slice none 0 0) := made_one rfl j
  rw [mR, tabN_rep] at oR
  have gR' : u25.heap.size ≤ gR ∧ gR < w25.heap.size := oR.lt gR rfl
  refine a_len hP ty7 hx.1 ?_
  rw [← hn]
  refine a_make (n := j) hX hP ty7 (by simp [argsFn]) (by simp [argsFn]) (by omega) (by unfold maxLen; omega) fun gA u27 w27 h27 k27 s27 su27 oA => ?_
  rw [made_7, tabN_rep, show tabN (fun _ => sR.zero) j = tabN (atK xs 0) j from tabN_congr fun i hi => by unfold atK; rw [if_neg (by omega)]; rfl] at oA
  have gA' : u27.heap.size ≤ gA ∧ gA < w27.heap.size := oA.lt gA rfl
  have oR27 := own_stp0 oR su27
  have oa27 := own_stp0 (own_stp0 oa su25) su27
  have y22 := h25.size
  have y25 := s25.size
  have y25' := h27.size
  have y27 := s27.size
  have alo : ∀ {g'}, va.ownBlock = some g' → g' < w22.heap.size := fun h => (oa.lt _ h).2
  refine a_len hP ty7 hx.1 ?_
  rw [← hn]
  refine ⟨fun q w => ∃ i V, q = [J i] ∧ i ≤ j ∧ Kn X w ∧ w27.heap.size ≤ w.heap.size ∧ SlAt w va (allA xs xs.length).length ((allA xs xs.length).flatMap encS7) ∧ w.ownsRow u25.heap.size 24 1 (Row gR j j) j (tabN V j) ∧ w.ownsRow u27.heap.size 27 1 (Row gA j j) j ((tabN (atK xs i) j).flatMap encS7) ∧ Rests w27.heap.size w.heap.size w xs i V, fun q _ => match q with | i :: _ => j - intNat i | _ => 0, fun w hw => ⟨0, _, rfl, Nat.zero_le _, hw.kn, hw.size, (own_slAt oa27).stp0 hw.stp, own_stp0 oR27 hw.stp, own_stp0 oA hw.stp, ⟨fun j hj => by omega, fun j hj => by omega⟩⟩, ?_⟩
  rintro _ w30 ⟨i, V, he, hi, hk30, hz30, sa, oR30, oA30, hV⟩
  simp only [List.cons.injEq, and_true] at he
  subst he
  rw [ask_lssN]
  refine a_ifD (fun hlt => ?_) fun hge' => ?_
  · refine ld_S7 hP hk30 (x0 hk30) (by omega) (fun _ _ => List.not_mem_nil) ?_
    intro b0 hb0
    refine a_S7 (a_sel1 rfl ?_)
    have offb : ∀ {v : Value}, (∀ g, v.ownBlock = some g → g < w30.heap.size) → ∀ g, v.ownBlock = some g → g ∉ [b0] := fun h g hg hm => by
      have := h g hg
      simp at hm; omega
    refine call_W hX hS (T := TA7i) (f := 30) rfl (allA xs xs.length, xs.getD i 0, ()) (fun w hw => ⟨⟨_, _, rfl, ⟨sa.stp hw.stp (offb fun g hg => by have := alo hg; omega), fun _ _ => trivial⟩, _, _, rfl, rfl, rfl⟩, by rw [all_len]; omega, by show (allA xs xs.length).length ≤ 1000; rw [all_len]; omega⟩) fun v u36 w36 h36 k36 s36 su36 ov => ?_
    replace ov : w36.ownsRow u36.heap.size 27 1 v (restA xs i).length ((restA xs i).flatMap encS7) := ov
    rw [rest_len] at ov
    have oR36 := own_stp oR30 su36 (own_off0 oR30 hb0)
    have oA36 := own_stp oA30 su36 (own_off0 oA30 hb0)
    have sa36 := sa.stp su36 (offb fun g hg => by have := alo hg; omega)
    have hV36 := hV.stp su36 (by simp; omega)
    have y36 := h36.size
    have y36' := s36.size
    have z36 := su36.size
    refine a_iadN hP ty77 (own_slAt oR36) hlt ?_
    refine a_store (vs := [v]) hX hP szL7 rfl rfl (by
      rcases (own_slAt ov) with ⟨h, _⟩ | ⟨_, _, _, h, _⟩ <;> rw [h] <;> rfl) rfl (by simp [own_one ov]) oR36 h25.sz0 (by omega) (by decide) (fun _ _ => List.not_mem_nil) (fun w4 hw4 g' hg' hm => by
      simp [Value.ownBlock] at hg'
      simp only [kb22_1, List.map_cons, List.map_nil, List.mem_cons, List.not_mem_nil, or_false] at hm
      omega) fun _ w37 w38 h38 k38 s38 su38 oR38 => ?_
    rw [Nat.mul_one, (set_tab V i j v).resolve_right (by omega)] at oR38
    have e38 : (Row gR j j).ownBlock.toList = [gR] := rfl
    rw [e38, List.nil_append] at su38
    have z38 := su38.size
    have oA38 := own_stp oA36 su38 (fun g hg hm => by
      simp [Value.ownBlock] at hg
      simp at hm; omega)
    have ov38 := own_stp ov su38 (fun g hg hm => by
      have := (ov.lt g hg).1
      simp at hm; omega)
    have sa38 := sa36.stp su38 (fun g hg hm => by
      have := alo hg
      simp at hm; omega)
    have hV38 := hV36.stp su38 (by simp; omega)
    refine a_iadN hP ty77 (own_slAt oR38) hlt ?_
    refine a_load_one (c := v) k38 (own_slAt oR38) (by rw [hP]; exact aggL7) (fun _ _ => List.not_mem_nil) (by rw [Nat.mul_one, tabN_at _ hlt, if_pos rfl]) ?_
    refine call_W hX hS (T := TA7i) (f := 23) rfl (restA xs i, xs.getD i 0, ()) (fun w hw => ⟨⟨_, _, rfl, ⟨by rw [rest_len]; exact (own_slAt ov38).stp0 hw.stp, fun _ _ => trivial⟩, _, _, rfl, rfl, rfl⟩, by show (restA xs i).length ≤ 1000; rw [rest_len]; omega⟩) fun x u41 w41 h41 k41 s41 su41 hv => ?_
    dsimp only at hv
    subst hv
    have oA41 := own_stp0 oA38 su41
    have y41 := su41.size
    refine a_iadN hP ty7 (own_slAt oA41) hlt ?_
    refine a_store (vs := encS7 (sR.eval (restA xs i) (xs.getD i 0))) hX hP sz7 rfl rfl rfl rfl (one_encS7 _) oA41 h27.sz0 (by omega) (by decide) (fun _ _ => List.not_mem_nil) (fun w4 hw4 g' hg' hm => by
      simp [Value.ownBlock] at hg'
      simp only [kb22_1, List.map_cons, List.map_nil, List.mem_cons, List.not_mem_nil, or_false] at hm
      omega) fun _ w42 w43 h43 k43 s43 su43 oA43 => ?_
    rw [lset_flat encS7_len _ _ _ (by rw [tabN_len]; omega), atK_set] at oA43
    have e43 : (Row gA j j).ownBlock.toList = [gA] := rfl
    rw [e43, List.nil_append] at su43
    have z43 := su43.size
    rw [ask_succ (by omega)]
    intro w2 hw2
    have t43 : Stp [gA] w38 w43 := su41.trans su43
    have oR43 := own_stp oR38 t43 (fun g hg hm => by
      simp [Value.ownBlock] at hg
      simp at hm; omega)
    have ov43 := own_stp ov38 t43 (fun g hg hm => by
      have := (ov.lt g hg).1
      simp at hm; omega)
    have sa43 := sa38.stp t43 (fun g hg hm => by
      have := alo hg
      simp at hm; omega)
    have hV43 := hV38.stp t43 (by simp; omega)
    refine ⟨⟨i + 1, fun k => if k = i then v else V k, rfl, hlt, hw2.kn, by have := hw2.size; omega, sa43.stp0 hw2.stp, own_stp0 oR43 hw2.stp, own_stp0 oA43 hw2.stp, ?_, ?_⟩, by simp [intNat]; omega⟩
    · intro k hk
      try dsimp only
      by_cases e : k = i
      · subst e
        rw [if_pos rfl]
        exact (own_slAt ov43).stp0 hw2.stp
      · rw [if_neg e]
        exact (hV43.at_ k (by omega)).stp0 hw2.stp
    · intro k hk g hg
      try dsimp only at hg
      by_cases e : k = i
      · subst e
        rw [if_pos rfl] at hg
        have h6 := ov43.lt g hg
        have := hw2.size
        omega
      · rw [if_neg e] at hg
        have h6 := hV43.lo_ k (by omega) g hg
        have := hw2.size
        omega
  obtain rfl : i = j := by omega
  refine a_len hP ty7 hx.1 ?_
  rw [← hn]
  refine a_make (n := i) hX hP ty7 (by simp [argsFn]) (by simp [argsFn]) (by omega) (by unfold maxLen; omega) fun gO u33 w33 h33 k33 s33 su33 oO => ?_
  rw [made_7, tabN_rep, acc0 xs ys] at oO
  have gO' : u33.heap.size ≤ gO ∧ gO < w33.heap.size := oO.lt gO rfl
  have eat : tabN (atK xs i) i = atA xs := by
    rw [atA, ← hn]
    exact tabN_congr fun k hk => by unfold atK; rw [if_pos hk]
  rw [eat] at oA30
  have lat : (atA xs).length = i := by rw [atA, tabN_len, hn]
  have oA33 := own_stp0 oA30 su33
  refine call_W hX hS (T := TA7i) (f := 31) rfl (atA xs, ()) (fun w hw => ⟨⟨_, _, rfl, ⟨by rw [lat]; exact (own_slAt oA33).stp0 hw.stp, fun _ _ => trivial⟩, rfl⟩, by show (atA xs).length ≤ 1000; omega⟩) fun vi u34 w34 h34 k34 s34 su34 oI => ?_
  dsimp only at oI
  have lI : (invAll (atA xs)).length = i := by rw [invAll, tabN_len, lat]
  rw [lat, ← lI] at oI
  refine a_len (n := i) hP ty7 (by have := own_slAt oI; rwa [lI] at this) ?_
  have oO34 := own_stp0 oO su34
  have oR34 := own_stp0 (own_stp0 oR30 su33) su34
  have hV34 := (hV.stp su33 (by simp)).stp su34 (by simp)
  have y33 := h33.size
  have y33' := s33.size
  have y34 := h34.size
  have y34' := s34.size
  refine ⟨fun q w => ∃ k, q = [J k] ∧ k ≤ i ∧ Kn X w ∧ w34.heap.size ≤ w.heap.size ∧ w.ownsRow u33.heap.size 27 1 (Row gO i i) i ((tabN (accA xs ys k) i).flatMap encS7) ∧ SlAt w (Row gR i i) i (tabN V i) ∧ Rests w27.heap.size w30.heap.size w xs i V ∧ SlAt w vi (invAll (atA xs)).length ((invAll (atA xs)).flatMap encS7), fun q _ => match q with | k :: _ => i - intNat k | _ => 0, fun w hw => ⟨0, rfl, Nat.zero_le _, hw.kn, hw.size, own_stp0 oO34 hw.stp, (own_slAt oR34).stp0 hw.stp, hV34.stp hw.stp (by simp), (own_slAt oI).stp0 hw.stp⟩, ?_⟩
  rintro _ w37 ⟨k, he, hk', hk37, hz37, oO37, sR37, hV37, sI37⟩
  simp only [List.cons.injEq, and_true] at he
  subst he
  rw [ask_lssN]
  refine a_ifD (fun hlt => ?_) fun hge2 => ?_
  · refine ld_S7 hP hk37 sI37 (by omega) (fun _ _ => List.not_mem_nil) ?_
    intro b0 hb0
    refine a_S7 (a_sel1 rfl ?_)
    have hy37 : SlAt w37 vy ys.length (ys.flatMap encS7) := hy.1.stp0 (hk37.stp0 hX)
    refine ld_S7 hP hk37 hy37 (by omega) (slAt_off hy37 (by rw [flat_len encS7_len]; omega) (by simpa using hb0)) ?_
    refine a_mk7 hP (j_7Mul hP hS (ys.getD k 0) _ ?_)
    intro b1 hb1
    refine a_S7 (a_sel1 rfl ?_)
    rw [show sR.mul (ys.getD k 0) ((invAll (atA xs)).getD k 0) = fA xs ys k from rfl]
    have hoff2 : ∀ {v : Value} {m : Nat} {zs : List Value}, SlAt w37 v m zs → 0 < zs.length → ∀ g, v.ownBlock = some g → g ∉ [b1, b0] := fun h h0 => slAt_off h h0 (by simp; omega)
    refine a_iadN hP ty77 sR37 hlt ?_
    refine a_load_one (c := V k) hk37 sR37 (by rw [hP]; exact aggL7) (hoff2 sR37 (by rw [tabN_len]; omega)) (by rw [Nat.mul_one, tabN_at _ hlt]) ?_
    have sVk := hV37.at_ k hlt
    refine a_len hP ty7 sVk ?_
    rw [← hn]
    have lO : gO < w37.heap.size := by omega
    refine ⟨fun q w => ∃ m, q = [J m] ∧ m ≤ i ∧ Kn X w ∧ w37.heap.size ≤ w.heap.size ∧ w.ownsRow u33.heap.size 27 1 (Row gO i i) i ((tabN (accK xs ys k m) i).flatMap encS7) ∧ SlAt w (Row gR i i) i (tabN V i) ∧ Rests w27.heap.size w30.heap.size w xs i V ∧ SlAt w vi (invAll (atA xs)).length ((invAll (atA xs)).flatMap encS7), fun q _ => match q with | m :: _ => i - intNat m | _ => 0, fun w hw => ⟨0, rfl, Nat.zero_le _, hw.kn, hw.size, own_stp oO37 hw.stp (fun g hg hm => ?_), sR37.stp hw.stp (hoff2 sR37 (by rw [tabN_len]; omega)), hV37.stp hw.stp (by simp; omega), sI37.stp hw.stp (hoff2 sI37 (by rw [flat_len encS7_len]; omega))⟩, ?_⟩
    · simp [Value.ownBlock] at hg
      simp at hm; omega
    rintro _ w53 ⟨m, he, hm, hk53, hz53, oO53, sR53, hV53, sI53⟩
    simp only [List.cons.injEq, and_true] at he
    subst he
    rw [ask_lssN]
    refine a_ifD (fun hlm => ?_) fun hgm => ?_
    · have sVk53 := hV53.at_ k hlt
      refine ld_S7 (l := restA xs k) hP hk53 (by rw [rest_len]; exact sVk53) (by rw [rest_len]; omega) (fun _ _ => List.not_mem_nil) ?_
      intro b2 hb2
      refine a_S7 (a_sel1 rfl ?_)
      have lK : (tabN (accK xs ys k m) i).length = i := tabN_len _ _
      refine ld_S7 (l := tabN (accK xs ys k m) i) hP hk53 (by rw [lK]; exact own_slAt oO53) (by rw [lK]; omega) (own_off0 oO53 hb2) ?_
      rw [tabN_get _ _ hlm, accK, if_neg (by omega)]
      refine a_mk7 hP (a_mk7 hP ?_)
      refine j_7Mul hP hS (fA xs ys k) _ ?_
      refine j_7Add hP hS _ _ ?_
      rw [show sR.add (accA xs ys k m) (sR.mul (fA xs ys k) ((restA xs k).getD m 0)) = accA xs ys (k + 1) m from rfl]
      refine a_iadN hP ty7 (own_slAt oO53) hlm ?_
      refine a_store (vs := encS7 (accA xs ys (k + 1) m)) hX hP sz7 rfl rfl rfl rfl (one_encS7 _) oO53 h33.sz0 (by omega) (by decide) (own_off0 oO53 hb2) (fun w4 hw4 g' hg' hm => by
        simp [Value.ownBlock] at hg'
        simp only [kb22_3, List.map_cons, List.map_nil, List.mem_cons, List.not_mem_nil, or_false] at hm
        omega) fun _ w65 w66 h66 k66 s66 su66 oO66 => ?_
      rw [lset_flat encS7_len _ _ _ (by rw [lK]; omega), accK_set] at oO66
      have e66 : [b2] ++ (Row gO i i).ownBlock.toList = [b2, gO] := rfl
      rw [e66] at su66
      have z66 := su66.size
      rw [ask_succ (by omega)]
      intro w2 hw2
      have gOhi : w30.heap.size ≤ gO := by omega
      refine ⟨⟨m + 1, rfl, hlm, hw2.kn, by have := hw2.size; omega, own_stp0 oO66 hw2.stp, (sR53.stp su66 (fun g hg hm' => ?_)).stp0 hw2.stp, (hV53.stp su66 (by simp; omega)).stp hw2.stp (by simp), (sI53.stp su66 (fun g hg hm' => ?_)).stp0 hw2.stp⟩, by simp [intNat]; omega⟩
      · simp [Value.ownBlock] at hg
        simp at hm'; omega
      · have h6 := oI.lt g hg
        simp at hm'; omega
    · obtain rfl : m = i := by omega
      rw [ask_succ (by omega)]
      intro w2 hw2
      rw [show tabN (accK xs ys k m) m = tabN (accA xs ys (k + 1)) m from tabN_congr fun q hq => by unfold accK; rw [if_pos hq]] at oO53
      exact ⟨⟨k + 1, rfl, hlt, hw2.kn, by have := hw2.size; omega, own_stp0 oO53 hw2.stp, sR53.stp0 hw2.stp, hV53.stp hw2.stp (by simp), sI53.stp0 hw2.stp⟩, by simp [intNat]; omega⟩
  · obtain rfl : k = i := by omega
    refine hR _ _ _ _ fun w hw => ⟨fun h => absurd h htw, fun _ => ⟨_, rfl, ?_⟩⟩
    show w.ownsRow _ _ _ _ xs.length _
    rw [interpA, ← hn]
    exact own_mono (own_stp0 oO37 hw.stp) h33.sz0
#print axioms keeps7Ip
end Go.Vc
