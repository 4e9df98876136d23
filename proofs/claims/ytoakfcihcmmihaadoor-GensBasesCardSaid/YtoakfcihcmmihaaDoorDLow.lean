/-
  Seat D: scalar.lower, scalar.Scalar.Least keep their contracts, where scalar.table reads as it is laid.
-/
import Derived.Test.YtoakfcihcmmihaaDoorDSmall
namespace Go.Vc
open Go Go.Proofs Go.RowKit

theorem Keeps1.weaken {P : Program} {G : World → Prop} {f : Nat} {c : Contract} (h : Keeps1 P (fun _ => True) f c) : Keeps1 P G f c :=
  ⟨fun args w hp _ => h.calls args w hp trivial, fun args w hp _ => h.callsW args w hp trivial⟩

def tabArr : Array Value := #[U 6346243789798364141, U 1503914060200516822, U 0, U 1152921504606846976, U 15486807595281847581, U 14334777244411350896, U 18446744073709551614, U 1152921504606846975,
  U 11819153939886771969, U 14991950615390032711, U 14910419812499177061, U 259310039853996605, U 6346243789798364139, U 1503914060200516822, U 0, U 1152921504606846976]
/-- scalar.table reads as it is laid. -/
def GT (w : World) : Prop := 0 < w.heap.size ∧ ∀ (i : Nat) (v : Value), tabArr[i]? = some v → w.cell? ⟨0, i, none⟩ = some v

theorem GT.stays {w0 w : World} (h : GT w0) (hs : ∀ b, b < w0.heap.size → w.heap[b]? = w0.heap[b]?) (hz : w0.heap.size ≤ w.heap.size) : GT w :=
  ⟨Nat.lt_of_lt_of_le h.1 hz, fun i v hi => by rw [World.cell?_of_block (w := w0) (hs 0 h.1)]; exact h.2 i v hi⟩

theorem memT {X : Ctx} {w0 : World} (hX : X.w0 = w0) (hg : GT w0) {k : Nat} {xs : List Value} (hl : xs.length = k) : Mem X ⟨true, k + 2 - 1, []⟩ [some ⟨.wh k, 16, 130, false⟩] [(0, 0)] (env0 (xs ++ [.agg tabArr]) w0) (fun b => b) w0 := by
  have he : (env0 (xs ++ [.agg tabArr]) w0 k).1 = .agg tabArr := by simp [env0, ← hl]
  subst hX
  refine mem0 rfl (fun j b h => ?_) (fun g k h => by simp at h; rw [h.1, h.2])
  cases j with
  | succ j => simp at h
  | zero =>
    simp at h
    subst h
    refine ⟨rfl, fun i v hi => ?_, ?_, ?_, hg.1⟩
    · simp only [Cont.den, he, aggArr] at hi
      exact hg.2 i v hi
    · simp only [Cont.den, he, aggArr]; rfl
    · simp only [Cont.ok, he, aggArr]

def ann72 : Ann := ⟨[], [70, 71, 72, 73, 35, 68], 70, [], [], none, []⟩
theorem vc72 (X : Ctx) (β : Nat → Nat) (x0 x1 x2 x3 x4 : Value) : (run Tryd.prog ann72 72 [.l [.v 0, .v 1, .v 2, .v 3]] [some ⟨.wh 4, 16, 130, false⟩] [(0, 0)] 6).den X (env0 [x0, x1, x2, x3, x4] X.w0) 6 β 1 (fun _ _ _ => False) = (
  AskNew X.w0 fun _ =>
  AskNew X.w0 fun b2 =>
  Ask (rSel (aggArr x4) 0 4 true) fun x6 =>
  AskF X 70 [(.agg #[x0, x1, x2, x3]), x6] fun x7 =>
  Ask (rExt X.P x7 0) fun x8 =>
  Ask (rExt X.P x7 1) fun x9 =>
  AskNew X.w0 fun b3 =>
  Ask (rAgg 4 x8) fun x10 =>
  Ask (rSel (aggArr x10) 0 1 false) fun x11 =>
  Ask (rSel (aggArr x10) 1 1 false) fun x12 =>
  Ask (rSel (aggArr x10) 2 1 false) fun x13 =>
  Ask (rSel (aggArr x10) 3 1 false) fun x14 =>
  Ask (rUn X.P .neg x9) fun x15 =>
  AskF X 73 [x15, (.agg #[x0, x1, x2, x3]), (.agg #[x11, x12, x13, x14])] fun x16 =>
  Ask (rAgg 4 x16) fun x17 =>
  Ask (rSel (aggArr x17) 0 1 false) fun x18 =>
  Ask (rSel (aggArr x17) 1 1 false) fun x19 =>
  Ask (rSel (aggArr x17) 2 1 false) fun x20 =>
  Ask (rSel (aggArr x17) 3 1 false) fun x21 =>
  Ret X X.w0 [b2, b3] [] (.agg #[x18, x19, x20, x21])) := by kernel_rfl


def lN : Nat := N4 6346243789798364141 1503914060200516822 0 1152921504606846976
def T1 : Table := Table.add (Table.add (Table.add (fun _ => {}) 70 cMinus) 71 cPlus) 73 cChoose
theorem keepT1 : AllKeep Tryd.prog GT T1 := (((AllKeep.none _ _).add keeps70.weaken).add keeps71.weaken).add keeps73.weaken

def cLower : Contract where
  pre args := ∃ a0 a1 a2 a3, args = [L4 a0 a1 a2 a3] ∧ lim a0 a1 a2 a3
  post args v := ∀ a0 a1 a2 a3, args = [L4 a0 a1 a2 a3] → ∃ d0 d1 d2 d3, v = L4 d0 d1 d2 d3 ∧ lim d0 d1 d2 d3 ∧ N4 d0 d1 d2 d3 = if N4 a0 a1 a2 a3 < lN then N4 a0 a1 a2 a3 else N4 a0 a1 a2 a3 - lN

theorem ask_L4 {K : Value → Prop} {a b c d : Nat} : Ask (rAgg 4 (L4 a b c d)) K = K (L4 a b c d) := ask_agg rfl (by simp [U, Value.oneCell'])
theorem ask_L40 {K : Value → Prop} {a b c d : Nat} : Ask (rSel (aggArr (L4 a b c d)) 0 1 false) K = K (U a) := ask_sel1 rfl
theorem ask_L41 {K : Value → Prop} {a b c d : Nat} : Ask (rSel (aggArr (L4 a b c d)) 1 1 false) K = K (U b) := ask_sel1 rfl
theorem ask_L42 {K : Value → Prop} {a b c d : Nat} : Ask (rSel (aggArr (L4 a b c d)) 2 1 false) K = K (U c) := ask_sel1 rfl
theorem ask_L43 {K : Value → Prop} {a b c d : Nat} : Ask (rSel (aggArr (L4 a b c d)) 3 1 false) K = K (U d) := ask_sel1 rfl
theorem ask_tab0 {K : Value → Prop} : Ask (rSel (aggArr (.agg tabArr)) 0 4 true) K = K (L4 6346243789798364141 1503914060200516822 0 1152921504606846976) :=
  ask_eq fun v => ⟨fun h => h.2, fun h => ⟨by decide, h⟩⟩

theorem keeps72 : Keeps1 Tryd.prog GT 72 cLower := by
  refine keeps_pure (fun _ _ h => h) fun args w0 ⟨a0, a1, a2, a3, ha, hlim⟩ hGT => ?_
  subst ha
  refine calls_pure (T := T1) (nb := 1) (A := ann72) (args := [.l [.v 0, .v 1, .v 2, .v 3]]) (blocks := [some ⟨.wh 4, 16, 130, false⟩]) (gl := [(0, 0)]) (ne := 6) (env := env0 ([U a0, U a1, U a2, U a3] ++ [.agg tabArr]) w0) (β := fun b => b) _ rfl rfl (by kernel_rfl) keepT1 (fun w h1 h2 => hGT.stays h1 h2)
    (fun f hf args w => by
      simp only [ann72, List.mem_cons, List.not_mem_nil, or_false] at hf
      rcases hf with rfl | rfl | rfl | rfl | rfl | rfl <;> kernel_rfl) (fun f hf => by cases hf)
    (fun X hX => memT (k := 4) (xs := [U a0, U a1, U a2, U a3]) hX hGT rfl) fun X hP hS hw hR => ?_
  subst hw
  simp only [List.cons_append, List.nil_append]
  rw [vc72 X, hP]; simp only [AskF, hS]
  intro _ _ _ _
  rw [ask_tab0]
  refine askC_intro ⟨a0, a1, a2, a3, _, _, _, _, rfl, hlim, by decide, by decide, by decide, by decide⟩ fun v hv => ?_
  obtain ⟨d0, d1, d2, d3, c, rfl, hd, hc, hN⟩ := hv a0 a1 a2 a3 _ _ _ _ rfl
  rw [ask_ext0, ask_ext1]
  intro _ _
  rw [ask_L4, ask_L40, ask_L41, ask_L42, ask_L43, ask_uneg (by simp only [B64]; omega)]
  have hmask : (B64 - c) % B64 = if c = 0 then 0 else B64 - 1 := by
    rcases Nat.le_one_iff_eq_zero_or_eq_one.1 hc with rfl | rfl <;> decide
  refine askC_intro ⟨(B64 - c) % B64, a0, a1, a2, a3, d0, d1, d2, d3, rfl, by rw [hmask]; split <;> simp, hlim, hd⟩ fun v hv => ?_
  have hv := hv _ a0 a1 a2 a3 d0 d1 d2 d3 rfl
  have hres : ∃ e0 e1 e2 e3, v = L4 e0 e1 e2 e3 ∧ lim e0 e1 e2 e3 ∧ N4 e0 e1 e2 e3 = if N4 a0 a1 a2 a3 < lN then N4 a0 a1 a2 a3 else N4 a0 a1 a2 a3 - lN := by
    obtain ⟨q0, q1, q2, q3⟩ := hd
    obtain ⟨p0, p1, p2, p3⟩ := hlim
    rcases Nat.le_one_iff_eq_zero_or_eq_one.1 hc with rfl | rfl
    · refine ⟨d0, d1, d2, d3, by simpa using hv, ⟨q0, q1, q2, q3⟩, ?_⟩
      have hx : ¬ N4 a0 a1 a2 a3 < lN := by unfold lN; simp only [N4, B64] at *; omega
      rw [if_neg hx]
      unfold lN
      simp only [N4, B64] at hN ⊢
      omega
    · refine ⟨a0, a1, a2, a3, by simpa using hv, ⟨p0, p1, p2, p3⟩, ?_⟩
      have hx : N4 a0 a1 a2 a3 < lN := by unfold lN; simp only [N4, B64] at *; omega
      rw [if_pos hx]
  obtain ⟨e0, e1, e2, e3, rfl, hle, hNe⟩ := hres
  rw [ask_L4, ask_L40, ask_L41, ask_L42, ask_L43]
  refine hR _ _ _ _ fun y0 y1 y2 y3 he => ?_
  simp only [List.cons.injEq, and_true] at he
  obtain ⟨rfl, rfl, rfl, rfl⟩ := L4_inj he
  exact ⟨e0, e1, e2, e3, rfl, hle, hNe⟩
#print axioms keeps72
end Go.Vc
