/-
  The calls of Line, both sides; MsmLines.
-/
import Derived.Test.YtoakfcihcmmihaaDoorDRm2
namespace Go.Vc
open Go Go.Proofs Go.RowKit

theorem ask_eqlJ {P : Program} {K : Value → Prop} {t : TypeId} {cx cy : Bool} {a b : Nat} : Ask (rBin P .eql t cx cy (J a) (J b)) K = K (.bool (decide (a = b))) := by
  rw [ask_eql]; congr 2; rw [Bool.eq_iff_iff]; simp; omega
theorem ask_neqBool {K : Value → Prop} {cx cy a b : Bool} : Ask (rBin Tryd.prog .neq 4 cx cy (.bool a) (.bool b)) K = K (.bool (a != b)) :=
  ask_eq (runs_iff fun w => by cases cx <;> cases cy <;> cases a <;> cases b <;> kernel_rfl)
theorem run_items_same {P : Program} {e : TypeId} {k' : IntKind} (hu : P.underlying e = some (.int k')) {xs : Array Value} (w : World) : ∀ ks : List Nat, (∀ k ∈ ks, ∃ x : Int, xs[k]? = some (.int k' x)) → (Op.eqItems 9999 e 1 xs xs ks).run P w = .ok true w
  | [], _ => by simp [Op.eqItems]
  | k :: ks, h => by
    obtain ⟨x, hx⟩ := h k (by simp)
    have he : (Op.equalIn 9999 e (.int k' x) (.int k' x)).run P w = .ok (x == x) w := run_equalIn_int w 9998 e k' k' x x hu
    have ih := run_items_same hu w ks fun k hk => h k (by simp [hk])
    simp only [Op.eqItems, Sem.run_bind, Nat.mul_one, run_part_u hu xs k _ hx, Result.andThen_ok, he, beq_self_eq_true]
    exact ih
theorem run_equalB_same (n : Nat) (w : World) : (Op.equal 97 (BS n) (BS n)).run Tryd.prog w = .ok true w := by
  have hz : (Tryd.prog.info? 5).map (·.size) = some 1 := by kernel_rfl
  obtain ⟨i, hi, hs⟩ : ∃ i, Tryd.prog.info? 5 = some i ∧ i.size = 1 := by
    cases hi : Tryd.prog.info? 5 with
    | none => rw [hi] at hz; cases hz
    | some i => rw [hi] at hz; exact ⟨i, rfl, by simpa using hz⟩
  have hc : Tryd.prog.cellsOf 5 = 1 := by simp [Program.cellsOf, hi, hs]
  show (Op.equalIn (9999 + 1) 97 _ _).run Tryd.prog w = _
  unfold BS
  rw [run_equalIn_array w 9999 _ _ Tryd.underlying97 hi, hc]
  refine run_items_same Tryd.underlying5 w _ fun k hk => ?_
  have hk : k < 32 := by simpa using hk
  refine ⟨(bt n k : Int), ?_⟩
  rw [encB_range]
  simp [hk, B]
theorem ask_neqB {K : Value → Prop} {n : Nat} {cx cy : Bool} : Ask (rBin Tryd.prog .neq 97 cx cy (BS n) (BS n)) K = K (.bool false) :=
  ask_eq (runs_iff fun w => by
    have h := run_equalB_same n w
    have hg : Tryd.prog.eqGuardType Tryd.prog.depth 97 = false := by kernel_rfl
    unfold BS at *
    simp [binSem, eqGuard, binOp, hg, h])
theorem foldS (n : Nat) : Value.agg #[U (lb n 0), U (lb n 1), U (lb n 2), U (lb n 3)] = S n := rfl
theorem ask_selK {K : Value → Prop} {n : Nat} : Ask (rSel (aggArr (E n)) 0 1 false) K = K (J 2) := ask_sel1 rfl
theorem ask_selE {K : Value → Prop} {n : Nat} : Ask (rSel (aggArr (E n)) 21 4 true) K = K (S n) := ask_eq fun v => ⟨fun h => h.2, fun h => ⟨by simp [aggArr, E, encE], h⟩⟩
theorem E_injW {a b : Nat} (ha : a < W256) (hb : b < W256) (h : E a = E b) : a = b := encE_inj ha hb (by simpa [E] using h)
abbrev enc1E (n : Nat) : List Value := [E n]
abbrev enc2E (p : Nat × Nat) : List Value := [E p.1, E p.2]
abbrev encSE (p : Nat × Nat) : List Value := [S p.1, E p.2]
abbrev encES (p : Nat × Nat) : List Value := [E p.1, S p.2]
theorem inj1E (a b : Nat) (ha : a < W256) (hb : b < W256) (h : enc1E a = enc1E b) : a = b := E_injW ha hb (by simpa [enc1E] using h)
theorem inj2E (a b : Nat × Nat) (ha : dom2 a) (hb : dom2 b) (h : enc2E a = enc2E b) : a = b := by
  simp only [enc2E, List.cons.injEq, and_true] at h
  exact Prod.ext (E_injW ha.1 hb.1 h.1) (E_injW ha.2 hb.2 h.2)
theorem injSE (a b : Nat × Nat) (ha : dom2 a) (hb : dom2 b) (h : encSE a = encSE b) : a = b := by
  simp only [encSE, List.cons.injEq, and_true] at h
  exact Prod.ext (S_inj ha.1 hb.1 h.1) (E_injW ha.2 hb.2 h.2)
theorem injES (a b : Nat × Nat) (ha : dom2 a) (hb : dom2 b) (h : encES a = encES b) : a = b := by
  simp only [encES, List.cons.injEq, and_true] at h
  exact Prod.ext (E_injW ha.1 hb.1 h.1) (S_inj ha.2 hb.2 h.2)
abbrev domL (p : Nat × Nat) : Prop := p.1 < lN ∧ p.2 < lN

def ann46 : Ann := ⟨[], [55], 70, [], [1, 2]⟩
theorem vc46 (X : Ctx) (β : Nat → Nat) (x0 : Value) : (run Tryd.prog ann46 46 [.x (.v 0)] [] [] 2).den X (env0 [x0] X.w0) 2 β 0 (fun _ _ _ => False) = (
  Ask (rAgg 4 x0) fun x2 =>
  AskNew X.w0 fun _ =>
  Ask (rAgg 4 (.agg #[(U 0), (U 0), (U 0), (U 0)])) fun _ =>
  AskNew X.w0 fun b1 =>
  AskF X 55 [x2] fun x4 =>
  Ask (rAgg 4 x4) fun x5 =>
  Ret X X.w0 [b1] [] x5) := by kernel_rfl
def Tn7 : Table := T0.add 55 cRleast
theorem keepTn7 : AllKeep Tryd.prog GT Tn7 := keepT0.add keepsRleast
theorem keepsNum7 : Keeps1 Tryd.prog GT 46 cLeastS := by
  refine keepsP (T := Tn7) (A := ann46) inj1 hMix keepTn7 hGT (fun f hf => by
      simp only [ann46, List.mem_cons, List.not_mem_nil, or_false] at hf
      rcases hf with rfl <;> intros <;> kernel_rfl) (fun f hf => by cases hf) fun n w0 hn _ => ⟨[.x (.v 0)], [], [], 2, env0 [S n] w0, fun b => b, 0, rfl, rfl, fun X hX => mem_none hX rfl, fun X hP hS hw hX hR => ?_⟩
  subst hw
  rw [vc46 X]
  rw [ask_aggS]; intro _ _; rw [ask_zero4]; intro _ _
  refine call_PE hS (T := Tn7) (f := 55) rfl n hn ?_
  rw [ask_aggS]
  exact hR _ _ _ _ rfl
def ann36 : Ann := ⟨[], [46, 9], 70, [], [1]⟩
theorem vc36 (X : Ctx) (β : Nat → Nat) (x0 : Value) : (run Tryd.prog ann36 36 [.x (.v 0)] [] [] 2).den X (env0 [x0] X.w0) 2 β 0 (fun _ _ _ => False) = (
  Ask (rAgg 4 x0) fun x2 =>
  AskNew X.w0 fun _ =>
  AskNew X.w0 fun b1 =>
  AskF X 46 [x2] fun x3 =>
  AskF X 9 [x3] fun x4 =>
  Ask (rAgg 26 x4) fun x5 =>
  Ret X X.w0 [b1] [] x5) := by kernel_rfl
def Tof : Table := (T0.add 46 cLeastS).add 9 cLineOfS
theorem keepTof : AllKeep Tryd.prog GT Tof := (keepT0.add keepsNum7).add keepsLineOf
def cOfLine : Contract := fnP enc1 (· < W256) (fun n v => v = E (n % lN))
theorem keepsOfLine : Keeps1 Tryd.prog GT 36 cOfLine := by
  refine keepsP (T := Tof) (A := ann36) inj1 hMix keepTof hGT (fun f hf => by
      simp only [ann36, List.mem_cons, List.not_mem_nil, or_false] at hf
      rcases hf with rfl | rfl <;> intros <;> kernel_rfl) (fun f hf => by cases hf) fun n w0 hn _ => ⟨[.x (.v 0)], [], [], 2, env0 [S n] w0, fun b => b, 0, rfl, rfl, fun X hX => mem_none hX rfl, fun X hP hS hw hX hR => ?_⟩
  subst hw
  rw [vc36 X]
  rw [ask_aggS]; intro _ _ _ _
  refine call_PE hS (T := Tof) (f := 46) rfl n hn ?_
  refine call_PE hS (T := Tof) (f := 9) rfl (n % lN) (lm_lt n) ?_
  rw [ask_aggE]
  exact hR _ _ _ _ rfl
def ann37 : Ann := ⟨[], [], 70, [], [2]⟩
theorem vc37 (X : Ctx) (β : Nat → Nat) (x0 x1 : Value) : (run Tryd.prog ann37 37 [.x (.v 0), .x (.v 1)] [] [] 3).den X (env0 [x0, x1] X.w0) 3 β 0 (fun _ _ _ => False) = (
  Ask (rAgg 4 x0) fun x3 =>
  AskNew X.w0 fun _ =>
  Ask (rAgg 26 x1) fun x4 =>
  AskNew X.w0 fun _ =>
  Ask (rSel (aggArr x4) 21 4 true) fun x5 =>
  Ask (rBin X.P .eql 36 false false x3 x5) fun x6 =>
  Ret X X.w0 [] [] x6) := by kernel_rfl
def cLineIs : Contract := fnP encSE dom2 (fun p v => v = .bool (decide (p.1 = p.2)))
theorem keepsLineIs : Keeps1 Tryd.prog GT 37 cLineIs := by
  refine keepsP (T := T0) (A := ann37) injSE hMix keepT0 hGT (fun f hf => by cases hf) (fun f hf => by cases hf) fun ⟨a, b⟩ w0 ⟨ha, hb⟩ _ => ⟨[.x (.v 0), .x (.v 1)], [], [], 3, env0 [S a, E b] w0, fun b => b, 0, rfl, rfl, fun X hX => mem_none hX rfl, fun X hP hS hw hX hR => ?_⟩
  subst hw
  dsimp only at ha hb hR
  rw [vc37 X]
  rw [ask_aggS]; intro _ _; rw [ask_aggE]; intro _ _
  rw [ask_selE, ask_eqlS (hP ▸ a4R) ha hb]
  exact hR _ _ _ _ rfl
/-! ### the program's Line -/
def Tpl : Table := (((((T0.add 74 cAddS).add 80 cNegS).add 83 cMulS).add 86 cSameS).add 88 cEncS).add 92 cDecS
theorem keepTpl : AllKeep Tryd.prog GT Tpl := (((((keepT0.add keepsAdd).add keepsNeg).add keepsMul).add keepsSame).add keepsEnc).add keepsDec
def ann38 : Ann := ⟨[], [74], 70, [], [2, 3, 4]⟩
theorem vc38 (X : Ctx) (β : Nat → Nat) (x0 x1 : Value) : (run Tryd.prog ann38 38 [.x (.v 0), .x (.v 1)] [] [] 3).den X (env0 [x0, x1] X.w0) 3 β 0 (fun _ _ _ => False) = (
  Ask (rAgg 4 x0) fun x3 =>
  AskNew X.w0 fun _ =>
  Ask (rAgg 4 x1) fun x4 =>
  AskNew X.w0 fun _ =>
  Ask (rAgg 4 (.agg #[(U 0), (U 0), (U 0), (U 0)])) fun _ =>
  AskNew X.w0 fun b2 =>
  AskF X 74 [x3, x4] fun x6 =>
  Ask (rAgg 4 x6) fun x7 =>
  Ask (rSel (aggArr x7) 0 1 false) fun x8 =>
  Ask (rSel (aggArr x7) 1 1 false) fun x9 =>
  Ask (rSel (aggArr x7) 2 1 false) fun x10 =>
  Ask (rSel (aggArr x7) 3 1 false) fun x11 =>
  Ask (rAgg 4 (.agg #[x8, x9, x10, x11])) fun x12 =>
  Ret X X.w0 [b2] [] x12) := by kernel_rfl
def ann40 : Ann := ⟨[], [80], 70, [], [1, 2]⟩
theorem vc40 (X : Ctx) (β : Nat → Nat) (x0 : Value) : (run Tryd.prog ann40 40 [.x (.v 0)] [] [] 2).den X (env0 [x0] X.w0) 2 β 0 (fun _ _ _ => False) = (
  Ask (rAgg 4 x0) fun x2 =>
  AskNew X.w0 fun _ =>
  Ask (rAgg 4 (.agg #[(U 0), (U 0), (U 0), (U 0)])) fun _ =>
  AskNew X.w0 fun b1 =>
  AskF X 80 [x2] fun x4 =>
  Ask (rAgg 4 x4) fun x5 =>
  Ask (rSel (aggArr x5) 0 1 false) fun x6 =>
  Ask (rSel (aggArr x5) 1 1 false) fun x7 =>
  Ask (rSel (aggArr x5) 2 1 false) fun x8 =>
  Ask (rSel (aggArr x5) 3 1 false) fun x9 =>
  Ask (rAgg 4 (.agg #[x6, x7, x8, x9])) fun x10 =>
  Ret X X.w0 [b1] [] x10) := by kernel_rfl
def ann42 : Ann := ⟨[], [74], 70, [], [1, 2]⟩
theorem vc42 (X : Ctx) (β : Nat → Nat) (x0 : Value) : (run Tryd.prog ann42 42 [.x (.v 0)] [] [] 2).den X (env0 [x0] X.w0) 2 β 0 (fun _ _ _ => False) = (
  Ask (rAgg 4 x0) fun x2 =>
  AskNew X.w0 fun _ =>
  Ask (rAgg 4 (.agg #[(U 0), (U 0), (U 0), (U 0)])) fun _ =>
  AskNew X.w0 fun b1 =>
  AskF X 74 [x2, x2] fun x4 =>
  Ask (rAgg 4 x4) fun x5 =>
  Ask (rSel (aggArr x5) 0 1 false) fun x6 =>
  Ask (rSel (aggArr x5) 1 1 false) fun x7 =>
  Ask (rSel (aggArr x5) 2 1 false) fun x8 =>
  Ask (rSel (aggArr x5) 3 1 false) fun x9 =>
  Ask (rAgg 4 (.agg #[x6, x7, x8, x9])) fun x10 =>
  Ret X X.w0 [b1] [] x10) := by kernel_rfl
def ann44 : Ann := ⟨[], [83], 70, [], [2, 3, 4]⟩
theorem vc44 (X : Ctx) (β : Nat → Nat) (x0 x1 : Value) : (run Tryd.prog ann44 44 [.x (.v 0), .x (.v 1)] [] [] 3).den X (env0 [x0, x1] X.w0) 3 β 0 (fun _ _ _ => False) = (
  Ask (rAgg 4 x0) fun x3 =>
  AskNew X.w0 fun _ =>
  Ask (rAgg 4 x1) fun x4 =>
  AskNew X.w0 fun _ =>
  Ask (rAgg 4 (.agg #[(U 0), (U 0), (U 0), (U 0)])) fun _ =>
  AskNew X.w0 fun b2 =>
  AskF X 83 [x3, x4] fun x6 =>
  Ask (rAgg 4 x6) fun x7 =>
  Ask (rSel (aggArr x7) 0 1 false) fun x8 =>
  Ask (rSel (aggArr x7) 1 1 false) fun x9 =>
  Ask (rSel (aggArr x7) 2 1 false) fun x10 =>
  Ask (rSel (aggArr x7) 3 1 false) fun x11 =>
  Ask (rAgg 4 (.agg #[x8, x9, x10, x11])) fun x12 =>
  Ret X X.w0 [b2] [] x12) := by kernel_rfl
def ann47 : Ann := ⟨[], [86], 70, [], [2, 3]⟩
theorem vc47 (X : Ctx) (β : Nat → Nat) (x0 x1 : Value) : (run Tryd.prog ann47 47 [.x (.v 0), .x (.v 1)] [] [] 3).den X (env0 [x0, x1] X.w0) 3 β 0 (fun _ _ _ => False) = (
  Ask (rAgg 4 x0) fun x3 =>
  AskNew X.w0 fun _ =>
  Ask (rAgg 4 x1) fun x4 =>
  AskNew X.w0 fun _ =>
  AskF X 86 [x3, x4] fun x5 =>
  Ret X X.w0 [] [] x5) := by kernel_rfl
def ann49 : Ann := ⟨[], [88], 70, [], [1]⟩
theorem vc49 (X : Ctx) (β : Nat → Nat) (x0 : Value) : (run Tryd.prog ann49 49 [.x (.v 0)] [] [] 2).den X (env0 [x0] X.w0) 2 β 0 (fun _ _ _ => False) = (
  Ask (rAgg 4 x0) fun x2 =>
  AskNew X.w0 fun _ =>
  AskNew X.w0 fun b1 =>
  AskF X 88 [x2] fun x3 =>
  Ask (rAgg 32 x3) fun x4 =>
  Ret X X.w0 [b1] [] x4) := by kernel_rfl
theorem keepsLAdd : Keeps1 Tryd.prog GT 38 cAddS := by
  refine keepsP (T := Tpl) (A := ann38) inj2 hMix keepTpl hGT (fun f hf => by
      simp only [ann38, List.mem_cons, List.not_mem_nil, or_false] at hf
      rcases hf with rfl <;> intros <;> kernel_rfl) (fun f hf => by cases hf) fun ⟨a, b⟩ w0 ⟨ha, hb⟩ _ => ⟨[.x (.v 0), .x (.v 1)], [], [], 3, env0 [S a, S b] w0, fun b => b, 0, rfl, rfl, fun X hX => mem_none hX rfl, fun X hP hS hw hX hR => ?_⟩
  subst hw
  dsimp only at ha hb hR
  rw [vc38 X]
  rw [ask_aggS]; intro _ _; rw [ask_aggS]; intro _ _; rw [ask_zero4]; intro _ _
  refine call_PE hS (T := Tpl) (f := 74) rfl (a, b) ⟨ha, hb⟩ ?_
  dsimp only
  rw [ask_aggS, ask_selS0, ask_selS1, ask_selS2, ask_selS3, foldS, ask_aggS]
  exact hR _ _ _ _ rfl
theorem keepsLNeg : Keeps1 Tryd.prog GT 40 cNegS := by
  refine keepsP (T := Tpl) (A := ann40) inj1 hMix keepTpl hGT (fun f hf => by
      simp only [ann40, List.mem_cons, List.not_mem_nil, or_false] at hf
      rcases hf with rfl <;> intros <;> kernel_rfl) (fun f hf => by cases hf) fun n w0 hn _ => ⟨[.x (.v 0)], [], [], 2, env0 [S n] w0, fun b => b, 0, rfl, rfl, fun X hX => mem_none hX rfl, fun X hP hS hw hX hR => ?_⟩
  subst hw
  rw [vc40 X]
  rw [ask_aggS]; intro _ _; rw [ask_zero4]; intro _ _
  refine call_PE hS (T := Tpl) (f := 80) rfl n hn ?_
  rw [ask_aggS, ask_selS0, ask_selS1, ask_selS2, ask_selS3, foldS, ask_aggS]
  exact hR _ _ _ _ rfl
def cDblS : Contract := fnP enc1 (· < W256) (fun n v => v = S ((n + n) % lN))
theorem keepsLDbl : Keeps1 Tryd.prog GT 42 cDblS := by
  refine keepsP (T := Tpl) (A := ann42) inj1 hMix keepTpl hGT (fun f hf => by
      simp only [ann42, List.mem_cons, List.not_mem_nil, or_false] at hf
      rcases hf with rfl <;> intros <;> kernel_rfl) (fun f hf => by cases hf) fun n w0 hn _ => ⟨[.x (.v 0)], [], [], 2, env0 [S n] w0, fun b => b, 0, rfl, rfl, fun X hX => mem_none hX rfl, fun X hP hS hw hX hR => ?_⟩
  subst hw
  rw [vc42 X]
  rw [ask_aggS]; intro _ _; rw [ask_zero4]; intro _ _
  refine call_PE hS (T := Tpl) (f := 74) rfl (n, n) ⟨hn, hn⟩ ?_
  dsimp only
  rw [ask_aggS, ask_selS0, ask_selS1, ask_selS2, ask_selS3, foldS, ask_aggS]
  exact hR _ _ _ _ rfl
theorem keepsLTimes : Keeps1 Tryd.prog GT 44 cMulS := by
  refine keepsP (T := Tpl) (A := ann44) inj2 hMix keepTpl hGT (fun f hf => by
      simp only [ann44, List.mem_cons, List.not_mem_nil, or_false] at hf
      rcases hf with rfl <;> intros <;> kernel_rfl) (fun f hf => by cases hf) fun ⟨a, b⟩ w0 ⟨ha, hb⟩ _ => ⟨[.x (.v 0), .x (.v 1)], [], [], 3, env0 [S a, S b] w0, fun b => b, 0, rfl, rfl, fun X hX => mem_none hX rfl, fun X hP hS hw hX hR => ?_⟩
  subst hw
  dsimp only at ha hb hR
  rw [vc44 X]
  rw [ask_aggS]; intro _ _; rw [ask_aggS]; intro _ _; rw [ask_zero4]; intro _ _
  refine call_PE hS (T := Tpl) (f := 83) rfl (a, b) ⟨ha, hb⟩ ?_
  dsimp only
  rw [ask_aggS, ask_selS0, ask_selS1, ask_selS2, ask_selS3, foldS, ask_aggS]
  exact hR _ _ _ _ rfl
theorem keepsLSame : Keeps1 Tryd.prog GT 47 cSameS := by
  refine keepsP (T := Tpl) (A := ann47) inj2 hMix keepTpl hGT (fun f hf => by
      simp only [ann47, List.mem_cons, List.not_mem_nil, or_false] at hf
      rcases hf with rfl <;> intros <;> kernel_rfl) (fun f hf => by cases hf) fun ⟨a, b⟩ w0 ⟨ha, hb⟩ _ => ⟨[.x (.v 0), .x (.v 1)], [], [], 3, env0 [S a, S b] w0, fun b => b, 0, rfl, rfl, fun X hX => mem_none hX rfl, fun X hP hS hw hX hR => ?_⟩
  subst hw
  dsimp only at ha hb hR
  rw [vc47 X]
  rw [ask_aggS]; intro _ _; rw [ask_aggS]; intro _ _
  refine call_PE hS (T := Tpl) (f := 86) rfl (a, b) ⟨ha, hb⟩ ?_
  exact hR _ _ _ _ rfl
theorem keepsLEnc : Keeps1 Tryd.prog GT 49 cEncS := by
  refine keepsP (T := Tpl) (A := ann49) inj1 hMix keepTpl hGT (fun f hf => by
      simp only [ann49, List.mem_cons, List.not_mem_nil, or_false] at hf
      rcases hf with rfl <;> intros <;> kernel_rfl) (fun f hf => by cases hf) fun n w0 hn _ => ⟨[.x (.v 0)], [], [], 2, env0 [S n] w0, fun b => b, 0, rfl, rfl, fun X hX => mem_none hX rfl, fun X hP hS hw hX hR => ?_⟩
  subst hw
  rw [vc49 X]
  rw [ask_aggS]; intro _ _ _ _
  refine call_PE hS (T := Tpl) (f := 88) rfl n hn ?_
  rw [ask_aggB]
  exact hR _ _ _ _ rfl
def ann51 : Ann := ⟨[], [92], 70, [], [2, 4, 6]⟩
theorem vc51 (X : Ctx) (β : Nat → Nat) (x0 x1 : Value) : (run Tryd.prog ann51 51 [.x (.v 0), .x (.v 1)] [] [] 3).den X (env0 [x0, x1] X.w0) 3 β 0 (fun _ _ _ => False) = (
  Ask (rAgg 4 x0) fun _ =>
  AskNew X.w0 fun _ =>
  Ask (rAgg 32 x1) fun x4 =>
  AskNew X.w0 fun _ =>
  Ask (rAgg 4 (.agg #[(U 0), (U 0), (U 0), (U 0)])) fun _ =>
  AskNew X.w0 fun b2 =>
  AskF X 92 [x4] fun x6 =>
  Ask (rExt X.P x6 0) fun x7 =>
  Ask (rExt X.P x6 1) fun x8 =>
  Ask (rAgg 4 (.agg #[(U 0), (U 0), (U 0), (U 0)])) fun _ =>
  AskNew X.w0 fun b3 =>
  Ask (rAgg 4 x7) fun x10 =>
  Ask (rAgg 4 x10) fun x11 =>
  Ask (rSel (aggArr x11) 0 1 false) fun x12 =>
  Ask (rSel (aggArr x11) 1 1 false) fun x13 =>
  Ask (rSel (aggArr x11) 2 1 false) fun x14 =>
  Ask (rSel (aggArr x11) 3 1 false) fun x15 =>
  Ask (rAgg 4 (.agg #[x12, x13, x14, x15])) fun x16 =>
  Ret X X.w0 [b2, b3] [] (.tuple #[x16, x8])) := by kernel_rfl
abbrev encSB (p : Nat × Nat) : List Value := [S p.1, BS p.2]
theorem injSB (a b : Nat × Nat) (ha : dom2 a) (hb : dom2 b) (h : encSB a = encSB b) : a = b := by
  simp only [encSB, List.cons.injEq, and_true] at h
  exact Prod.ext (S_inj ha.1 hb.1 h.1) (BS_inj ha.2 hb.2 h.2)
def cLDec : Contract := fnP encSB dom2 (fun p v => v = if p.2 < lN then .tuple #[S p.2, J 0] else .tuple #[S 0, J 3])
theorem keepsLDec : Keeps1 Tryd.prog GT 51 cLDec := by
  refine keepsP (T := Tpl) (A := ann51) injSB hMix keepTpl hGT (fun f hf => by
      simp only [ann51, List.mem_cons, List.not_mem_nil, or_false] at hf
      rcases hf with rfl <;> intros <;> kernel_rfl) (fun f hf => by cases hf) fun ⟨a, b⟩ w0 ⟨ha, hb⟩ _ => ⟨[.x (.v 0), .x (.v 1)], [], [], 3, env0 [S a, BS b] w0, fun b => b, 0, rfl, rfl, fun X hX => mem_none hX rfl, fun X hP hS hw hX hR => ?_⟩
  subst hw
  dsimp only at ha hb hR
  rw [vc51 X]
  rw [ask_aggS]; intro _ _; rw [ask_aggB]; intro _ _; rw [ask_zero4]; intro _ _
  refine call_PE hS (T := Tpl) (f := 92) rfl b hb ?_
  by_cases h : b < lN
  · rw [if_pos h, ask_ext0, ask_ext1, ask_zero4]; intro _ _
    rw [ask_aggS, ask_aggS, ask_selS0, ask_selS1, ask_selS2, ask_selS3, foldS, ask_aggS]
    exact hR _ _ _ _ (by rw [if_pos h])
  · rw [if_neg h, ask_ext0, ask_ext1, ask_zero4]; intro _ _
    rw [ask_aggS, ask_aggS, ask_selS0, ask_selS1, ask_selS2, ask_selS3, foldS, ask_aggS]
    exact hR _ _ _ _ (by rw [if_neg h])
/-! ### the document's -/
def Tdl : Table := ((((((((T0.add 77 cRAdd).add 82 cRNeg).add 85 cMulS).add 81 cRInt).add 90 cREncS).add 94 cDecS).add 9 cLineOfS).add 57 cNeutral)
theorem keepTdl : AllKeep Tryd.prog GT Tdl := ((((((((keepT0.add keepsRAdd).add keepsRNeg).add keepsRMul).add keepsRInt).add keepsREnc).add keepsRDec).add keepsLineOf).add keepsNeutral)
def ann39 : Ann := ⟨[(11, ([], []))], [77, 9], 70, [], [8]⟩
def kb39_0 (b0 b1 b2 : Nat) (x3 x4 : Value) : List KB := [⟨b0, true, 39, (aggArr x3)⟩, ⟨b1, true, 39, (aggArr x4)⟩, ⟨b2, true, 39, #[(J 0), (J 0), (J 0), (J 0), (J 0), (J 0), (J 0), (J 0), (J 0), (J 0), (J 0), (J 0), (J 0), (J 0), (J 0), (J 0), (J 0), (J 0), (J 0), (J 0), (J 0), (U 0), (U 0), (U 0), (U 0), (.slice none 0 0)]⟩]
theorem vc39 (X : Ctx) (β : Nat → Nat) (x0 x1 : Value) : (run Tryd.prog ann39 39 [.x (.v 0), .x (.v 1)] [] [] 3).den X (env0 [x0, x1] X.w0) 3 β 0 (fun _ _ _ => False) = (
  Ask (rAgg 26 x0) fun x3 =>
  AskNew X.w0 fun b0 =>
  Ask (rAgg 26 x1) fun x4 =>
  AskNew X.w0 fun b1 =>
  AskNew X.w0 fun b2 =>
  Ask (rSel (aggArr x3) 0 1 false) fun x5 =>
  Ask (rBin X.P .eql 3 false true x5 (J 1)) fun x6 =>
  (∃ t, x6 = .bool t) ∧ (x6 = .bool true →
    Ask (rSel (aggArr x3) 1 20 true) fun _ =>
    Ask (rSel (aggArr x4) 1 20 true) fun _ =>
    False /- 1 -/) ∧ (x6 = .bool false →
    Ask (rBin X.P .eql 3 false true x5 (J 2)) fun x7 =>
    (∃ t, x7 = .bool t) ∧ (x7 = .bool true →
      Ask (rSel (aggArr x3) 21 4 true) fun x8 =>
      Ask (rSel (aggArr x4) 21 4 true) fun x9 =>
      AskF X 77 [x8, x9] fun x10 =>
      AskF X 9 [x10] fun x11 =>
      Ask (rAgg 26 x11) fun x12 =>
      Ret X X.w0 [b2] [] x12) ∧ (x7 = .bool false →
      Ask (rSel (aggArr x3) 25 1 false) fun x8 =>
      Ask (rLen X.P 37 x8) fun x9 =>
      Ask (rSel (aggArr x4) 25 1 false) fun x10 =>
      Ask (rLen X.P 37 x10) fun x11 =>
      Ask (rBin X.P .gtr 3 false false x11 x9) fun x12 =>
      (∃ t, x12 = .bool t) ∧ (x12 = .bool true →
        Ask (rSel (aggArr x4) 25 1 false) fun x13 =>
        Ask (rLen X.P 37 x13) fun _ =>
        ∃ (I0 : List Value → World → Prop) (_μ0 : List Value → World → Nat), (∀ w, KnownV X X.w0 [] (kb39_0 b0 b1 b2 x3 x4) w → I0 [] w) ∧ ∀  w15, I0 [] w15 →
          False /- 1 -/) ∧ (x12 = .bool false →
        ∃ (I0 : List Value → World → Prop) (_μ0 : List Value → World → Nat), (∀ w, KnownV X X.w0 [] (kb39_0 b0 b1 b2 x3 x4) w → I0 [] w) ∧ ∀  w13, I0 [] w13 →
          False /- 1 -/)))) := by kernel_rfl
def cEAdd : Contract := fnP enc2E domL (fun p v => v = E ((p.1 + p.2) % lN))
theorem dom_l {p : Nat × Nat} (h : domL p) : dom2 p := ⟨l_W h.1, l_W h.2⟩
theorem keepsEAdd : Keeps1 Tryd.prog GT 39 cEAdd := by
  refine keepsP (T := Tdl) (A := ann39) (fun a b ha hb => inj2E a b (dom_l ha) (dom_l hb)) hMix keepTdl hGT (fun f hf => by
      simp only [ann39, List.mem_cons, List.not_mem_nil, or_false] at hf
      rcases hf with rfl | rfl <;> intros <;> kernel_rfl) (fun f hf => by cases hf) fun ⟨a, b⟩ w0 ⟨ha, hb⟩ _ => ⟨[.x (.v 0), .x (.v 1)], [], [], 3, env0 [E a, E b] w0, fun b => b, 0, rfl, rfl, fun X hX => mem_none hX rfl, fun X hP hS hw hX hR => ?_⟩
  subst hw
  dsimp only at ha hb hR
  rw [vc39 X]
  rw [ask_aggE]; intro _ _; rw [ask_aggE]; intro _ _ _ _
  rw [ask_selK, ask_eqlJ]
  refine a_ifD (fun h => by cases h) fun _ => ?_
  rw [ask_eqlJ]
  refine a_ifD (fun _ => ?_) fun h => absurd rfl h
  rw [ask_selE, ask_selE]
  refine call_PE hS (T := Tdl) (f := 77) rfl (a, b) ⟨ha, hb⟩ ?_
  refine call_PE hS (T := Tdl) (f := 9) rfl ((a + b) % lN) (lm_lt _) ?_
  rw [ask_aggE]
  exact hR _ _ _ _ rfl
def ann45 : Ann := ⟨[(8, ([5], []))], [85, 9], 70, [], [3]⟩
def kb45_0 (b0 b1 b2 : Nat) (x3 x4 : Value) : List KB := [⟨b0, true, 39, (aggArr x3)⟩, ⟨b1, true, 36, (aggArr x4)⟩, ⟨b2, true, 39, #[(J 0), (J 0), (J 0), (J 0), (J 0), (J 0), (J 0), (J 0), (J 0), (J 0), (J 0), (J 0), (J 0), (J 0), (J 0), (J 0), (J 0), (J 0), (J 0), (J 0), (J 0), (U 0), (U 0), (U 0), (U 0), (.slice none 0 0)]⟩]
theorem vc45 (X : Ctx) (β : Nat → Nat) (x0 x1 : Value) : (run Tryd.prog ann45 45 [.x (.v 0), .x (.v 1)] [] [] 3).den X (env0 [x0, x1] X.w0) 3 β 0 (fun _ _ _ => False) = (
  Ask (rAgg 26 x0) fun x3 =>
  AskNew X.w0 fun b0 =>
  Ask (rAgg 4 x1) fun x4 =>
  AskNew X.w0 fun b1 =>
  AskNew X.w0 fun b2 =>
  Ask (rSel (aggArr x3) 0 1 false) fun x5 =>
  Ask (rBin X.P .eql 3 false true x5 (J 1)) fun x6 =>
  (∃ t, x6 = .bool t) ∧ (x6 = .bool true →
    Ask (rSel (aggArr x3) 1 20 true) fun _ =>
    False /- 1 -/) ∧ (x6 = .bool false →
    Ask (rBin X.P .eql 3 false true x5 (J 2)) fun x7 =>
    (∃ t, x7 = .bool t) ∧ (x7 = .bool true →
      Ask (rSel (aggArr x3) 21 4 true) fun x8 =>
      AskF X 85 [x8, x4] fun x9 =>
      AskF X 9 [x9] fun x10 =>
      Ask (rAgg 26 x10) fun x11 =>
      Ret X X.w0 [b2] [] x11) ∧ (x7 = .bool false →
      ∃ (I0 : List Value → World → Prop) (_μ0 : List Value → World → Nat), (∀ w, KnownV X X.w0 [] (kb45_0 b0 b1 b2 x3 x4) w → I0 [(.slice none 0 0)] w) ∧ ∀ x8 w9, I0 [x8] w9 →
        False /- 1 -/))) := by kernel_rfl
def cETimes : Contract := fnP encES dom2 (fun p v => v = E (p.1 * p.2 % lN))
theorem keepsETimes : Keeps1 Tryd.prog GT 45 cETimes := by
  refine keepsP (T := Tdl) (A := ann45) injES hMix keepTdl hGT (fun f hf => by
      simp only [ann45, List.mem_cons, List.not_mem_nil, or_false] at hf
      rcases hf with rfl | rfl <;> intros <;> kernel_rfl) (fun f hf => by cases hf) fun ⟨a, b⟩ w0 ⟨ha, hb⟩ _ => ⟨[.x (.v 0), .x (.v 1)], [], [], 3, env0 [E a, S b] w0, fun b => b, 0, rfl, rfl, fun X hX => mem_none hX rfl, fun X hP hS hw hX hR => ?_⟩
  subst hw
  dsimp only at ha hb hR
  rw [vc45 X]
  rw [ask_aggE]; intro _ _; rw [ask_aggS]; intro _ _ _ _
  rw [ask_selK, ask_eqlJ]
  refine a_ifD (fun h => by cases h) fun _ => ?_
  rw [ask_eqlJ]
  refine a_ifD (fun _ => ?_) fun h => absurd rfl h
  rw [ask_selE]
  refine call_PE hS (T := Tdl) (f := 85) rfl (a, b) ⟨ha, hb⟩ ?_
  refine call_PE hS (T := Tdl) (f := 9) rfl (a * b % lN) (lm_lt _) ?_
  rw [ask_aggE]
  exact hR _ _ _ _ rfl
def ann41 : Ann := ⟨[], [81, 82, 45], 70, [], []⟩
theorem vc41 (X : Ctx) (β : Nat → Nat) (x0 : Value) : (run Tryd.prog ann41 41 [.x (.v 0)] [] [] 2).den X (env0 [x0] X.w0) 2 β 0 (fun _ _ _ => False) = (
  Ask (rAgg 26 x0) fun x2 =>
  AskNew X.w0 fun _ =>
  AskNew X.w0 fun b1 =>
  AskF X 81 [(U 1)] fun x3 =>
  AskF X 82 [x3] fun x4 =>
  AskF X 45 [x2, x4] fun x5 =>
  Ask (rAgg 26 x5) fun x6 =>
  Ret X X.w0 [b1] [] x6) := by kernel_rfl
def Ten : Table := ((T0.add 81 cRInt).add 82 cRNeg).add 45 cETimes
theorem keepTen : AllKeep Tryd.prog GT Ten := ((keepT0.add keepsRInt).add keepsRNeg).add keepsETimes
theorem neg_mul {a : Nat} (h : a < lN) : a * subL 0 1 % lN = subL 0 a := by
  have e : subL 0 1 = lN - 1 := by decide
  rw [e]
  unfold subL
  have hp : 1 < lN := by decide
  generalize lN = L at *
  by_cases h0 : 0 < a
  · rw [if_pos h0, Nat.zero_add]
    have e2 : a * (L - 1) = (L - a) + L * (a - 1) := by
      obtain ⟨c, rfl⟩ : ∃ c, a = c + 1 := ⟨a - 1, by omega⟩
      obtain ⟨d, rfl⟩ : ∃ d, L = c + 1 + d := ⟨L - (c + 1), by omega⟩
      rw [show c + 1 + d - 1 = c + d by omega, show c + 1 + d - (c + 1) = d by omega, show c + 1 - 1 = c by omega]
      simp only [Nat.add_mul, Nat.mul_add, Nat.one_mul, Nat.mul_comm d c]
      omega
    rw [e2, Nat.add_mul_mod_self_left, Nat.mod_eq_of_lt (by omega)]
  · obtain rfl : a = 0 := by omega
    rw [if_neg (by omega), Nat.zero_mul, Nat.zero_mod]
def cENeg : Contract := fnP enc1E (· < lN) (fun n v => v = E (subL 0 n))
theorem keepsENeg : Keeps1 Tryd.prog GT 41 cENeg := by
  refine keepsP (T := Ten) (A := ann41) (fun a b ha hb => inj1E a b (l_W ha) (l_W hb)) hMix keepTen hGT (fun f hf => by
      simp only [ann41, List.mem_cons, List.not_mem_nil, or_false] at hf
      rcases hf with rfl | rfl | rfl <;> intros <;> kernel_rfl) (fun f hf => by cases hf) fun n w0 hn _ => ⟨[.x (.v 0)], [], [], 2, env0 [E n] w0, fun b => b, 0, rfl, rfl, fun X hX => mem_none hX rfl, fun X hP hS hw hX hR => ?_⟩
  subst hw
  rw [vc41 X]
  rw [ask_aggE]; intro _ _ _ _
  refine call_PE hS (T := Ten) (f := 81) rfl 1 (show 1 < B64 by decide) ?_
  refine call_PE hS (T := Ten) (f := 82) rfl 1 (show 1 < lN by decide) ?_
  refine call_PE hS (T := Ten) (f := 45) rfl (n, subL 0 1) ⟨l_W hn, show subL 0 1 < W256 by decide⟩ ?_
  dsimp only
  rw [ask_aggE]
  exact hR _ _ _ _ (by rw [neg_mul hn])
def ann43 : Ann := ⟨[], [39], 70, [], []⟩
theorem vc43 (X : Ctx) (β : Nat → Nat) (x0 : Value) : (run Tryd.prog ann43 43 [.x (.v 0)] [] [] 2).den X (env0 [x0] X.w0) 2 β 0 (fun _ _ _ => False) = (
  Ask (rAgg 26 x0) fun x2 =>
  AskNew X.w0 fun _ =>
  AskNew X.w0 fun b1 =>
  AskF X 39 [x2, x2] fun x3 =>
  Ask (rAgg 26 x3) fun x4 =>
  Ret X X.w0 [b1] [] x4) := by kernel_rfl
def Ted : Table := T0.add 39 cEAdd
theorem keepTed : AllKeep Tryd.prog GT Ted := keepT0.add keepsEAdd
def cEDbl : Contract := fnP enc1E (· < lN) (fun n v => v = E ((n + n) % lN))
theorem keepsEDbl : Keeps1 Tryd.prog GT 43 cEDbl := by
  refine keepsP (T := Ted) (A := ann43) (fun a b ha hb => inj1E a b (l_W ha) (l_W hb)) hMix keepTed hGT (fun f hf => by
      simp only [ann43, List.mem_cons, List.not_mem_nil, or_false] at hf
      rcases hf with rfl <;> intros <;> kernel_rfl) (fun f hf => by cases hf) fun n w0 hn _ => ⟨[.x (.v 0)], [], [], 2, env0 [E n] w0, fun b => b, 0, rfl, rfl, fun X hX => mem_none hX rfl, fun X hP hS hw hX hR => ?_⟩
  subst hw
  rw [vc43 X]
  rw [ask_aggE]; intro _ _ _ _
  refine call_PE hS (T := Ted) (f := 39) rfl (n, n) ⟨hn, hn⟩ ?_
  dsimp only
  rw [ask_aggE]
  exact hR _ _ _ _ rfl
def ann48 : Ann := ⟨[(11, ([5], []))], [], 70, [], []⟩
def kb48_0 (b0 b1 : Nat) (x3 x4 : Value) : List KB := [⟨b0, true, 39, (aggArr x3)⟩, ⟨b1, true, 39, (aggArr x4)⟩]
theorem vc48 (X : Ctx) (β : Nat → Nat) (x0 x1 : Value) : (run Tryd.prog ann48 48 [.x (.v 0), .x (.v 1)] [] [] 3).den X (env0 [x0, x1] X.w0) 3 β 0 (fun _ _ _ => False) = (
  Ask (rAgg 26 x0) fun x3 =>
  AskNew X.w0 fun b0 =>
  Ask (rAgg 26 x1) fun x4 =>
  AskNew X.w0 fun b1 =>
  Ask (rSel (aggArr x3) 0 1 false) fun x5 =>
  Ask (rSel (aggArr x4) 0 1 false) fun x6 =>
  Ask (rBin X.P .neq 3 false false x5 x6) fun x7 =>
  (∃ t, x7 = .bool t) ∧ (x7 = .bool true →
    Ret X X.w0 [] [] (.bool false)) ∧ (x7 = .bool false →
    Ask (rSel (aggArr x3) 0 1 false) fun x8 =>
    Ask (rBin X.P .eql 3 false true x8 (J 1)) fun x9 =>
    (∃ t, x9 = .bool t) ∧ (x9 = .bool true →
      Ask (rSel (aggArr x3) 1 20 true) fun _ =>
      Ask (rSel (aggArr x4) 1 20 true) fun _ =>
      False /- 1 -/) ∧ (x9 = .bool false →
      Ask (rBin X.P .eql 3 false true x8 (J 2)) fun x10 =>
      (∃ t, x10 = .bool t) ∧ (x10 = .bool true →
        Ask (rSel (aggArr x3) 21 4 true) fun x11 =>
        Ask (rSel (aggArr x4) 21 4 true) fun x12 =>
        Ask (rBin X.P .eql 36 false false x11 x12) fun x13 =>
        Ret X X.w0 [] [] x13) ∧ (x10 = .bool false →
        Ask (rSel (aggArr x3) 25 1 false) fun x11 =>
        Ask (rLen X.P 37 x11) fun x12 =>
        Ask (rSel (aggArr x4) 25 1 false) fun x13 =>
        Ask (rLen X.P 37 x13) fun x14 =>
        Ask (rBin X.P .neq 3 false false x12 x14) fun x15 =>
        (∃ t, x15 = .bool t) ∧ (x15 = .bool true →
          Ret X X.w0 [] [] (.bool false)) ∧ (x15 = .bool false →
          ∃ (I0 : List Value → World → Prop) (μ0 : List Value → World → Nat), (∀ w, KnownV X X.w0 [] (kb48_0 b0 b1 x3 x4) w → I0 [(J 0)] w) ∧ ∀ x16 w17, I0 [x16] w17 →
            Ask (rSel (aggArr x3) 25 1 false) fun x18 =>
            Ask (rLen X.P 37 x18) fun x19 =>
            Ask (rBin X.P .lss 3 false false x16 x19) fun x20 =>
            (∃ t, x20 = .bool t) ∧ (x20 = .bool true →
              Ask (rSel (aggArr x3) 25 1 false) fun x21 =>
              Ask (rIad X.P 37 x21 x16) fun x22 =>
              Ask (rLoad X w17 [] 36 x22) fun x23 =>
              Ask (rSel (aggArr x4) 25 1 false) fun x24 =>
              Ask (rIad X.P 37 x24 x16) fun x25 =>
              Ask (rLoad X w17 [] 36 x25) fun x26 =>
              Ask (rBin X.P .neq 36 false false x23 x26) fun x27 =>
              (∃ t, x27 = .bool t) ∧ (x27 = .bool true →
                Ret X w17 [] [] (.bool false)) ∧ (x27 = .bool false →
                Ask (rBin X.P .add 3 false true x16 (J 1)) fun x28 =>
                Again X w17 [] [] fun w => I0 [x28] w ∧ μ0 [x28] w < μ0 [x16] w17)) ∧ (x20 = .bool false →
              Ret X w17 [] [] (.bool true))))))) := by kernel_rfl
def cESame : Contract := fnP enc2E dom2 (fun p v => v = .bool (decide (p.1 = p.2)))
theorem keepsESame : Keeps1 Tryd.prog GT 48 cESame := by
  refine keepsP (T := T0) (A := ann48) inj2E hMix keepT0 hGT (fun f hf => by cases hf) (fun f hf => by cases hf) fun ⟨a, b⟩ w0 ⟨ha, hb⟩ _ => ⟨[.x (.v 0), .x (.v 1)], [], [], 3, env0 [E a, E b] w0, fun b => b, 0, rfl, rfl, fun X hX => mem_none hX rfl, fun X hP hS hw hX hR => ?_⟩
  subst hw
  dsimp only at ha hb hR
  rw [vc48 X]
  rw [ask_aggE]; intro _ _; rw [ask_aggE]; intro _ _
  rw [ask_selK, ask_selK, ask_neqN]
  refine a_ifN (fun h => absurd rfl h) fun _ => ?_
  rw [ask_selK, ask_eqlJ]
  refine a_ifD (fun h => by cases h) fun _ => ?_
  rw [ask_eqlJ]
  refine a_ifD (fun _ => ?_) fun h => absurd rfl h
  rw [ask_selE, ask_selE, ask_eqlS (hP ▸ a4R) ha hb]
  exact hR _ _ _ _ rfl
def ann50 : Ann := ⟨[(8, ([3], []))], [90], 70, [], []⟩
def kb50_0 (b0 b1 : Nat) (x2 : Value) : List KB := [⟨b0, true, 39, (aggArr x2)⟩, ⟨b1, true, 97, #[(.int .u8 0), (.int .u8 0), (.int .u8 0), (.int .u8 0), (.int .u8 0), (.int .u8 0), (.int .u8 0), (.int .u8 0), (.int .u8 0), (.int .u8 0), (.int .u8 0), (.int .u8 0), (.int .u8 0), (.int .u8 0), (.int .u8 0), (.int .u8 0), (.int .u8 0), (.int .u8 0), (.int .u8 0), (.int .u8 0), (.int .u8 0), (.int .u8 0), (.int .u8 0), (.int .u8 0), (.int .u8 0), (.int .u8 0), (.int .u8 0), (.int .u8 0), (.int .u8 0), (.int .u8 0), (.int .u8 0), (.int .u8 0)]⟩]
theorem vc50 (X : Ctx) (β : Nat → Nat) (x0 : Value) : (run Tryd.prog ann50 50 [.x (.v 0)] [] [] 2).den X (env0 [x0] X.w0) 2 β 0 (fun _ _ _ => False) = (
  Ask (rAgg 26 x0) fun x2 =>
  AskNew X.w0 fun b0 =>
  AskNew X.w0 fun b1 =>
  Ask (rSel (aggArr x2) 0 1 false) fun x3 =>
  Ask (rBin X.P .eql 3 false true x3 (J 1)) fun x4 =>
  (∃ t, x4 = .bool t) ∧ (x4 = .bool true →
    Ask (rSel (aggArr x2) 1 20 true) fun _ =>
    False /- 1 -/) ∧ (x4 = .bool false →
    Ask (rBin X.P .eql 3 false true x3 (J 2)) fun x5 =>
    (∃ t, x5 = .bool t) ∧ (x5 = .bool true →
      Ask (rSel (aggArr x2) 21 4 true) fun x6 =>
      AskF X 90 [x6] fun x7 =>
      Ask (rAgg 32 x7) fun x8 =>
      Ret X X.w0 [b1] [] x8) ∧ (x5 = .bool false →
      AskO X X.w0 [] (kb50_0 b0 b1 x2) false (Go.Op.buildSlice 112 4 #[(0, Go.Operand.const (Go.Value.int Go.IntKind.u8 102)), (1, Go.Operand.const (Go.Value.int Go.IntKind.u8 114)), (2, Go.Operand.const (Go.Value.int Go.IntKind.u8 101)), (3, Go.Operand.const (Go.Value.int Go.IntKind.u8 101))]) 112 [] fun x6 w6 =>
      Ask (rConv X.P 112 112 x6) fun x7 =>
      ∃ (I0 : List Value → World → Prop) (_μ0 : List Value → World → Nat), (∀ w, KnownV X w6 [] (kb50_0 b0 b1 x2) w → I0 [x7] w) ∧ ∀ x8 w9, I0 [x8] w9 →
        False /- 1 -/))) := by kernel_rfl
def cEEnc : Contract := fnP enc1E (· < W256) (fun n v => v = BS n)
theorem keepsEEnc : Keeps1 Tryd.prog GT 50 cEEnc := by
  refine keepsP (T := Tdl) (A := ann50) inj1E hMix keepTdl hGT (fun f hf => by
      simp only [ann50, List.mem_cons, List.not_mem_nil, or_false] at hf
      rcases hf with rfl <;> intros <;> kernel_rfl) (fun f hf => by cases hf) fun n w0 hn _ => ⟨[.x (.v 0)], [], [], 2, env0 [E n] w0, fun b => b, 0, rfl, rfl, fun X hX => mem_none hX rfl, fun X hP hS hw hX hR => ?_⟩
  subst hw
  rw [vc50 X]
  rw [ask_aggE]; intro _ _ _ _
  rw [ask_selK, ask_eqlJ]
  refine a_ifD (fun h => by cases h) fun _ => ?_
  rw [ask_eqlJ]
  refine a_ifD (fun _ => ?_) fun h => absurd rfl h
  rw [ask_selE]
  refine call_PE hS (T := Tdl) (f := 90) rfl n hn ?_
  rw [ask_aggB]
  exact hR _ _ _ _ rfl
def ann52 : Ann := ⟨[], [94, 9, 57], 70, [], [8]⟩
theorem vc52 (X : Ctx) (β : Nat → Nat) (x0 x1 : Value) : (run Tryd.prog ann52 52 [.x (.v 0), .x (.v 1)] [] [] 3).den X (env0 [x0, x1] X.w0) 3 β 0 (fun _ _ _ => False) = (
  Ask (rAgg 32 x1) fun x3 =>
  AskNew X.w0 fun _ =>
  AskNew X.w0 fun b1 =>
  Ask (rBin X.P .eql 3 false true x0 (J 1)) fun x4 =>
  (∃ t, x4 = .bool t) ∧ (x4 = .bool true →
    False /- 1 -/) ∧ (x4 = .bool false →
    Ask (rBin X.P .eql 3 false true x0 (J 2)) fun x5 =>
    (∃ t, x5 = .bool t) ∧ (x5 = .bool true →
      AskF X 94 [x3] fun x6 =>
      Ask (rExt X.P x6 0) fun x7 =>
      Ask (rExt X.P x6 1) fun x8 =>
      Ask (rAgg 4 (.agg #[(U 0), (U 0), (U 0), (U 0)])) fun _ =>
      AskNew X.w0 fun b2 =>
      Ask (rAgg 4 x7) fun x10 =>
      Ask (rBin X.P .neq 65 false true x8 (J 0)) fun x11 =>
      (∃ t, x11 = .bool t) ∧ (x11 = .bool true →
        AskF X 57 [x0] fun x12 =>
        Ask (rAgg 26 x12) fun x13 =>
        Ret X X.w0 [b1, b2] [] (.tuple #[x13, x8])) ∧ (x11 = .bool false →
        AskF X 9 [x10] fun x12 =>
        Ask (rAgg 26 x12) fun x13 =>
        Ret X X.w0 [b1, b2] [] (.tuple #[x13, (J 0)]))) ∧ (x5 = .bool false →
      AskF X 57 [x0] fun x6 =>
      Ask (rAgg 26 x6) fun x7 =>
      Ret X X.w0 [b1] [] (.tuple #[x7, (J 50)])))) := by kernel_rfl
def cEDec : Contract := fnP (fun n => [J 2, BS n]) (· < W256) (fun n v => v = if n < lN then .tuple #[E n, J 0] else .tuple #[E 0, J 3])
theorem keepsEDec : Keeps1 Tryd.prog GT 52 cEDec := by
  refine keepsP (T := Tdl) (A := ann52) (fun a b ha hb h => BS_inj ha hb (by simpa using h)) hMix keepTdl hGT (fun f hf => by
      simp only [ann52, List.mem_cons, List.not_mem_nil, or_false] at hf
      rcases hf with rfl | rfl | rfl <;> intros <;> kernel_rfl) (fun f hf => by cases hf) fun n w0 hn _ => ⟨[.x (.v 0), .x (.v 1)], [], [], 3, env0 [J 2, BS n] w0, fun b => b, 0, rfl, rfl, fun X hX => mem_none hX rfl, fun X hP hS hw hX hR => ?_⟩
  subst hw
  rw [vc52 X]
  rw [ask_aggB]; intro _ _ _ _
  rw [ask_eqlJ]
  refine a_ifD (fun h => by cases h) fun _ => ?_
  rw [ask_eqlJ]
  refine a_ifD (fun _ => ?_) fun h => absurd rfl h
  refine call_PE hS (T := Tdl) (f := 94) rfl n hn ?_
  by_cases h : n < lN
  · rw [if_pos h, ask_ext0, ask_ext1, ask_zero4]; intro _ _
    rw [ask_aggS, ask_neqN]
    refine a_ifN (fun h => absurd rfl h) fun _ => ?_
    refine call_PE hS (T := Tdl) (f := 9) rfl n hn ?_
    rw [ask_aggE]
    exact hR _ _ _ _ (by rw [if_pos h])
  · rw [if_neg h, ask_ext0, ask_ext1, ask_zero4]; intro _ _
    rw [ask_aggS, ask_neqN]
    refine a_ifN (fun _ => ?_) fun h => by cases h
    refine call_PE hS (T := Tdl) (f := 57) rfl () trivial ?_
    rw [ask_aggE]
    exact hR _ _ _ _ (by rw [if_neg h])
end Go.Vc
