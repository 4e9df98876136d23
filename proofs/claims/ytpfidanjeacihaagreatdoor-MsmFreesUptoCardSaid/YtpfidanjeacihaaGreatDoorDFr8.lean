/-
  Lists over the scalars: num, nums.
-/
import Derived.Test.YtpfidanjeacihaaGreatDoorDFr7
namespace Go.Vc
open Go Go.Proofs Go.RowKit

def ann16 : Ann := ⟨[], [32], 70, [], [1, 2], none, [], []⟩
theorem vc16 (X : Ctx) (β : Nat → Nat) (x0 : Value) : (run Tryz.prog ann16 16 [.x (.v 0)] [] [] 2).den X (env0 [x0] X.w0) 2 β 0 (fun _ _ _ => False) = (
  Ask (rAgg 4 x0) fun x2 =>
  AskNew X.w0 fun _ =>
  Ask (rAgg 4 (.agg #[(U 0), (U 0), (U 0), (U 0)])) fun _ =>
  AskNew X.w0 fun b1 =>
  AskF X 32 [x2] fun x4 =>
  Ask (rAgg 4 x4) fun x5 =>
  Ret X X.w0 [b1] [] x5) := by kernel_rfl
def Tn7 : Table := T0.add 32 cRleast
theorem keepTn7 : AllKeep Tryz.prog GT Tn7 := keepT0.add keepsRleast
theorem keepsNum7 : Keeps1 Tryz.prog GT 16 cLeastS := by
  refine keepsP (T := Tn7) (A := ann16) inj1 hMix keepTn7 hGT (calls_of (by kernel_rfl)) (callsW_of (by kernel_rfl)) fun n w0 hn _ => ⟨[.x (.v 0)], [], [], 2, env0 [S n] w0, fun b => b, 0, rfl, rfl, fun X hX => mem_none hX rfl, fun X hP hS hw hX hR => ?_⟩
  subst hw
  rw [vc16 X]
  rw [ask_aggS]; intro _ _; rw [ask_zero4]; intro _ _
  refine call_PE hS (T := Tn7) (f := 32) rfl n hn ?_
  rw [ask_aggS]
  exact hR _ _ _ _ rfl
def modL (l : List Nat) : List Nat := l.map (· % lN)
theorem modL_lt (l : List Nat) : ∀ x ∈ modL l, x < lN := fun x hx => by
  obtain ⟨y, _, rfl⟩ := List.mem_map.1 hx; exact Nat.mod_lt _ (by decide)
def cNums : Contract := fnW (Cods.cons cLS Cods.nil) (fun p _ => p.1.length ≤ mx) (fun p w v w' => w'.ownsRow w.heap.size 37 4 v p.1.length ((modL p.1).flatMap encS))
def Tnu : Table := T0.add 16 cLeastS
theorem keepTnu : AllKeep Tryz.prog GT Tnu := keepT0.add keepsNum7
def ann7 : Ann := ⟨[(3, ([3, 4], []))], [16], 70, [], [], none, [], []⟩
theorem vc7 (X : Ctx) (β : Nat → Nat) (x0 : Value) : (run Tryz.prog ann7 7 [.x (.v 0)] [] [] 2).den X (env0 [x0] X.w0) 2 β 0 (fun _ _ _ => False) = (
  ∃ (I0 : List Value → World → Prop) (μ0 : List Value → World → Nat), (∀ w, KnownV X X.w0 [] [] w → I0 [(.slice none 0 0), (J 0)] w) ∧ ∀ x2 x3 w4, I0 [x2, x3] w4 →
    Ask (rLen X.P 22 x0) fun x5 =>
    Ask (rBin X.P .lss 3 false false x3 x5) fun x6 =>
    (∃ t, x6 = .bool t) ∧ (x6 = .bool true →
      Ask (rIad X.P 22 x0 x3) fun x7 =>
      Ask (rLoad X w4 [] 25 x7) fun x8 =>
      AskF X 16 [x8] fun x9 =>
      AskO X w4 [] [] false (Go.Op.buildSlice 38 1 #[(0, Go.Operand.tmp 16)]) 38 [(16, x9)] fun x10 w10 =>
      AskO X w10 [] [] true (appOp (.tmp 11) (.tmp 17) 38) 38 [(11, x2), (17, x10)] fun x11 w11 =>
      Ask (rBin X.P .add 3 false true x3 (J 1)) fun x12 =>
      Again X w11 [] [] fun w => I0 [x11, x12] w ∧ μ0 [x11, x12] w < μ0 [x2, x3] w4) ∧ (x6 = .bool false →
      Ret X w4 [] [] x2)) := by kernel_rfl
theorem keepsNums : Keeps1 Tryz.prog GT 7 cNums := by
  refine keepsW (T := Tnu) (A := ann7) hMix keepTnu hGT (calls_of (by kernel_rfl)) (callsW_of (by kernel_rfl)) fun args ⟨l, _⟩ w0 hrd hpre _ => ?_
  obtain ⟨x, _, rfl, hl, rfl⟩ := hrd
  dsimp only at hl hpre
  simp only [mx] at hpre
  replace hl : Ls encS okS w0 x l := hl
  refine ⟨[.x (.v 0)], [], [], 2, env0 [x] w0, fun b => b, 0, rfl, rfl, fun X hX => mem_none hX rfl, fun X hP hS hw hX hR => ?_⟩
  subst hw; try dsimp only at hR
  rw [vc7 X]
  have hml : (modL l).length = l.length := by simp [modL]
  refine ⟨fun a w => ∃ (j B : Nat) (o : Value), a = [o, J j] ∧ j ≤ l.length ∧ X.w0.heap.size ≤ B ∧ B ≤ w.heap.size ∧ w.ownsRow B 37 4 o j (((modL l).take j).flatMap encS) ∧ Kn X w, fun a _ => match a with | [_, i] => l.length - intNat i | _ => 0,
    fun w2 hw2 => ⟨0, w2.heap.size, _, rfl, Nat.zero_le _, hw2.sz0, Nat.le_refl _, World.ownsRow_nil _ _ _ _, hw2.kn⟩, ?_⟩
  rintro o _ w2 ⟨j, B, _, he, hj, hB0, hBw, ho, hkn2⟩
  simp only [List.cons.injEq, and_true] at he
  obtain ⟨rfl, rfl⟩ := he
  refine a_len hP tyS' hl.1 ?_
  rw [ask_lssN]
  refine a_ifD (fun hlt => ?_) fun hge => ?_
  · have hl2 := hl.1.stp0 (hkn2.stp0 hX)
    refine a_iadN hP tyS' hl2 hlt ?_
    refine a_load_agg (cs := encS l[j]) hkn2 hl2 (hP ▸ aggS) (by rw [hP]; exact szS) (fun _ _ => List.not_mem_nil) (by simp [encS]) (flat_at encS_len l j _ (List.getElem?_eq_getElem hlt)) ?_
    refine call_PE hS (T := Tnu) (f := 16) rfl l[j] (hl.2 _ (List.getElem_mem hlt)) ?_
    refine a_push (encS (l[j] % lN)).toArray hX hP tyR rfl rfl (by decide) (by decide) (by decide) (by kernel_rfl) rfl (one_encS' _) rfl hB0 hBw ho (by simp only [maxLen]; omega) (by omega) fun o' w' k' s' ho' _ => ?_
    rw [ask_succ (by omega)]
    intro w3 hw3
    refine ⟨⟨j + 1, B, o', rfl, hlt, hB0, Nat.le_trans hBw (Nat.le_trans s'.size hw3.size), ?_, hw3.kn⟩, by simp [intNat]; omega⟩
    rw [flat_take (modL l) j (by omega)]
    have e : (modL l)[j]'(by omega) = l[j] % lN := by simp [modL]
    rw [e]
    exact own_stp0 ho' hw3.stp
  · obtain rfl : j = l.length := by omega
    rw [List.take_of_length_le (by omega)] at ho
    exact hR _ _ _ _ fun w hw => own_mono (own_stp0 ho hw.stp) hB0
#print axioms keepsNums
end Go.Vc
