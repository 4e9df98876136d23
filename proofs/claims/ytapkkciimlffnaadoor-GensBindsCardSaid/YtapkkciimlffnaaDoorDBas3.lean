/-
  GensBases: the sets on both sides, the look at them, the law.
-/
import Derived.Test.YtapkkciimlffnaaDoorDBas2
namespace Go.Vc
open Go Go.Proofs Go.RowKit

/-- An element over the lists. -/
def encEL (v : Value) : List Value := [J 3, J 0, J 0, J 0, J 0, J 0, J 0, J 0, J 0, J 0, J 0, J 0, J 0, J 0, J 0, J 0, J 0, J 0, J 0, J 0, J 0, U 0, U 0, U 0, U 0, v]
theorem encEL_len (v : Value) : (encEL v).length = 26 := rfl
def EL (v : Value) : Value := .agg (encEL v).toArray
theorem one_encEL {v : Value} (h : v.oneCell' = true) : (encEL v).all (·.oneCell') = true := by
  simp only [encEL, List.all_cons, List.all_nil, h, Bool.and_true]
  rfl
/-! ### the program's set -/
def cBasis : Contract := fnW (Cods.cons cI Cods.nil) (fun _ _ => True) (fun p w v w' => ((p.1 < 0 ∨ 64 < p.1) → v = .tuple #[.agg #[.slice none 0 0, .slice none 0 0, .slice none 0 0, .slice none 0 0, .slice none 0 0], J 1]) ∧
  (∀ n : Nat, p.1 = n → n ≤ 64 → ∃ x y z g h vs us, v = .tuple #[.agg #[x, y, z, g, h], J 0] ∧ SlAt w' g n vs ∧ SlAt w' h n us ∧ FSet 34 w.heap.size w' n x y z g h vs us))
def Tba : Table := T0.add 41 cBuild
theorem keepTba : AllKeep Tryd.prog GT Tba := keepT0.add keepsBuild
theorem ask_makeFunc {P : Program} {K : Value → Prop} {f a ty : Nat} {p : Value} : Ask (rGen P (.makeFunc (.func f) #[] #[.tmp a]) ty [(a, p)]) K = K (.func (.func f) #[] #[p]) :=
  ask_eq (runsN_iff fun w => by simp [execOp, Instr.makeFunc, argsFn])
def ann22 : Ann := ⟨[], [], 70, [(41, false)], [], none, [], []⟩
def kb22_0 (b0 b1 : Nat) (x2 : Value) : List KB := [⟨b0, true, 3, #[x2]⟩, ⟨b1, true, 50, #[(.slice none 0 0), (.slice none 0 0), (.slice none 0 0), (.slice none 0 0), (.slice none 0 0)]⟩]
theorem vc22 (X : Ctx) (β : Nat → Nat) (x0 : Value) : (run Tryd.prog ann22 22 [.x (.v 0)] [] [] 2).den X (env0 [x0] X.w0) 2 β 0 (fun _ _ _ => False) = (
  Ask (rPlain x0) fun x2 =>
  AskNew X.w0 fun b0 =>
  AskNew X.w0 fun b1 =>
  Ask (rBin X.P .lss 3 false true x2 (J 0)) fun x3 =>
  AskG [(x3, false)] (rBin X.P .gtr 3 false true x2 (J 64)) fun x4 =>
  Ask (rPick x3 (.bool true) x4) fun x5 =>
  (∃ t, x5 = .bool t) ∧ (x5 = .bool true →
    Ret X X.w0 [b1] [] (.tuple #[(.agg #[(.slice none 0 0), (.slice none 0 0), (.slice none 0 0), (.slice none 0 0), (.slice none 0 0)]), (J 1)])) ∧ (x5 = .bool false →
    Ask (rGen X.P (Go.Op.makeFunc (Go.Fn.func 42) #[] #[Go.Operand.tmp 1]) 80 [(1, (.pointer (some ⟨b0, 0, none⟩)))]) fun x6 =>
    AskW X X.w0 [] (kb22_0 b0 b1 x2) false 41 [x2, x6] fun x7 w7 =>
    Ask (rAgg 5 x7) fun x8 =>
    Ask (rSel (aggArr x8) 0 1 false) fun x9 =>
    Ask (rSel (aggArr x8) 1 1 false) fun x10 =>
    Ask (rSel (aggArr x8) 2 1 false) fun x11 =>
    Ask (rSel (aggArr x8) 3 1 false) fun x12 =>
    Ask (rSel (aggArr x8) 4 1 false) fun x13 =>
    Ret X w7 [b1] [] (.tuple #[(.agg #[x9, x10, x11, x12, x13]), (J 0)]))) := by kernel_rfl
theorem keepsBasis : Keeps1 Tryd.prog GT 22 cBasis := by
  refine keepsW (T := Tba) (A := ann22) hMix keepTba hGT (calls_of (by kernel_rfl)) (callsW_of (by kernel_rfl)) fun args ⟨i, _⟩ w0 hrd hpre _ => ?_
  obtain ⟨_, _, rfl, rfl, rfl⟩ := hrd
  refine ⟨[.x (.v 0)], [], [], 2, env0 [.int .i64 i] w0, fun b => b, 0, rfl, rfl, fun X hX => mem_none hX rfl, fun X hP hS hw hX hR => ?_⟩
  subst hw; try dsimp only at hR
  rw [vc22 X]
  refine a_plain rfl ?_
  intro b0 hb0 b1 hb1
  rw [ask_lss]
  have bad : (i < 0 ∨ 64 < i) → ∀ u ow bl, Ret X u ow bl (.tuple #[.agg #[.slice none 0 0, .slice none 0 0, .slice none 0 0, .slice none 0 0, .slice none 0 0], J 1]) := fun h u ow bl => hR _ _ _ _ fun w _ => ⟨fun _ => rfl, fun n e hn => by omega⟩
  by_cases h0 : i < 0
  · rw [show decide (i < ((0 : Nat) : Int)) = true by simpa using h0]
    refine a_G_off (condsV1_not (by decide)) fun v => ?_
    rw [ask_pickT]
    exact a_if (fun _ => bad (.inl h0) _ _ _) fun h => by cases h
  rw [show decide (i < ((0 : Nat) : Int)) = false by simpa using h0]
  refine a_G_on condsV1 ?_
  rw [ask_gtr, ask_pickF]
  refine a_ifD (fun h => bad (.inr h) _ _ _) fun h => ?_
  obtain ⟨n, rfl⟩ : ∃ k : Nat, i = k := ⟨i.toNat, by omega⟩
  have hn : n ≤ 64 := by omega
  rw [ask_makeFunc]
  refine call_W hX hS (T := Tba) (f := 41) rfl n (fun w hw => ⟨⟨b0, rfl, ?_⟩, hn⟩) fun v w1 w2 h1 k2 s2 _ hp => ?_
  · have := (hw.blk ⟨b0, true, 3, #[J n]⟩ (by simp [kb22_0])).1
    simp only [if_true] at this
    simp [World.cell?, this]
  obtain ⟨x, y, z, g, h, vs, us, rfl, hg, hh, hf⟩ := hp
  have lo1 : b1 < w1.heap.size := h1.low (by simp [kb22_0])
  refine a_agg (cs := [x, y, z, g, h]) rfl (by simp [own_one hf.1, own_one hf.2.1, own_one hf.2.2.1, slAt_one hg, slAt_one hh]) ?_
  iterate 5 refine a_sel1 rfl ?_
  refine hR _ _ _ _ fun w hw => ⟨fun h => by omega, fun m e hm => ?_⟩
  obtain rfl : n = m := by omega
  have hff := hf.stp hw.stp (all1 lo1)
  obtain ⟨_, _, _, _, _, _, _, fg, fh⟩ := hf
  refine ⟨x, y, z, g, h, vs, us, rfl, hg.stp hw.stp fun q hq hm => ?_, hh.stp hw.stp fun q hq hm => ?_, ?_⟩
  · have := fg q hq; simp at hm; omega
  · have := fh q hq; simp at hm; omega
  · have lo : X.w0.heap.size ≤ w1.heap.size := h1.sz0
    exact ⟨own_mono hff.1 lo, own_mono hff.2.1 lo, own_mono hff.2.2.1 lo, hff.2.2.2.1, hff.2.2.2.2.1, fun i v hv => own_mono (hff.2.2.2.2.2.1 i v hv) lo, fun i v hv => own_mono (hff.2.2.2.2.2.2.1 i v hv) lo, fun q hq => Nat.le_trans lo (fg q hq), fun q hq => Nat.le_trans lo (fh q hq)⟩

/-! ### the document's set -/
/-- The list, without zeros at its end. -/
def trim (l : List Nat) : List Nat := (l.reverse.dropWhile (· == 0)).reverse
theorem trim_step {l : List Nat} {k : Nat} (hk : k < l.length) (h0 : l[k] = 0) : trim (l.take (k + 1)) = trim (l.take k) := by
  rw [List.take_succ_eq_append_getElem hk, h0]
  generalize l.take k = r
  simp [trim]
theorem trim_last {l : List Nat} {k : Nat} (hk : k < l.length) (h0 : l[k] ≠ 0) : trim (l.take (k + 1)) = l.take (k + 1) := by
  rw [List.take_succ_eq_append_getElem hk]
  generalize l.take k = r
  generalize l[k] = a at h0
  simp [trim, h0]
def cJ : Cod Nat := ⟨fun _ v n => v = J n, fun _ _ _ _ h k => J_inj (h.symm.trans k)⟩
theorem trim_unit (k : Nat) : trim (unitL k) = unitL k := by simp [trim, unitL]
/-- The document's set over the lists. -/
def RF (x y z g h : Value) : Value := .agg ([J 3] ++ encEL x ++ encEL y ++ encEL z ++ [g, h]).toArray
def zRF : Value := .agg ([J 0] ++ zE ++ zE ++ zE ++ [Value.slice none 0 0, Value.slice none 0 0]).toArray
theorem oneJ3 : (J 3).oneCell' = true := rfl
section
variable {K : Value → Prop} {x y z g h u : Value}
theorem one_cells (hx : x.oneCell' = true) : x.cells = #[x] := by cases x <;> first | rfl | cases hx
theorem ask_updFG (hx : u.oneCell' = true) : Ask (rUpd (aggArr (RF x y z g h)) 79 1 u) K = K (RF x y z u h) := by
  refine ask_eq fun v => ?_
  have hc := one_cells hx
  have e : RF x y z u h = .agg (splice (aggArr (RF x y z g h)) 79 u.cells.toList) := by rw [hc]; rfl
  unfold rUpd
  rw [e]
  exact ⟨fun h => h.2.2.2, fun h => ⟨by show 79 + 1 ≤ 81; omega, by rw [hc]; rfl, by rw [hc]; simp [hx], h⟩⟩
theorem ask_updFH (hx : u.oneCell' = true) : Ask (rUpd (aggArr (RF x y z g h)) 80 1 u) K = K (RF x y z g u) := by
  refine ask_eq fun v => ?_
  have hc := one_cells hx
  have e : RF x y z g u = .agg (splice (aggArr (RF x y z g h)) 80 u.cells.toList) := by rw [hc]; rfl
  unfold rUpd
  rw [e]
  exact ⟨fun h => h.2.2.2, fun h => ⟨by show 80 + 1 ≤ 81; omega, by rw [hc]; rfl, by rw [hc]; simp [hx], h⟩⟩
theorem ask_aggRF (hx : x.oneCell' = true) (hy : y.oneCell' = true) (hz : z.oneCell' = true) (hg : g.oneCell' = true) (hh : h.oneCell' = true) : Ask (rAgg 81 (RF x y z g h)) K = K (RF x y z g h) :=
  ask_agg rfl (by simp only [List.all_toArray, List.all_append, List.all_cons, List.all_nil, one_encEL hx, one_encEL hy, one_encEL hz, hg, hh, oneJ3, Bool.and_true])
end
end Go.Vc
