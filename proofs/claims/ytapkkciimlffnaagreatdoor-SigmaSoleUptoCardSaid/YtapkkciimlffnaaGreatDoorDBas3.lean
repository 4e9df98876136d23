/-
  GensBases: the sets on both sides, the look at them, the law.
-/
import Derived.Test.YtapkkciimlffnaaGreatDoorDBas2
namespace Go.Vc
open Go Go.Proofs Go.RowKit

/-- An element over the lists. -/
def encEL (v : Value) : List Value := [J 3, J 0, J 0, J 0, J 0, J 0, J 0, J 0, J 0, J 0, J 0, J 0, J 0, J 0, J 0, J 0, J 0, J 0, J 0, J 0, J 0, U 0, U 0, U 0, U 0, v]
theorem encEL_len (v : Value) : (encEL v).length = 26 := rfl
def EL (v : Value) : Value := .agg (encEL v).toArray
theorem one_encEL {v : Value} (h : v.oneCell' = true) : (encEL v).all (·.oneCell') = true := by
  simp only [encEL, List.all_cons, List.all_nil, h, Bool.and_true]
  rfl
/-! ### the program's set -/
def cBasis : Contract := fnW (Cods.cons cI Cods.nil) (fun _ _ => True) (fun p w v w' => ((p.1 < 0 ∨ 64 < p.1) → v = .tuple #[.agg #[.slice none 0 0, .slice none 0 0, .slice none 0 0, .slice none 0 0, .slice none 0 0], J 1]) ∧
  (∀ n : Nat, p.1 = n → n ≤ 64 → ∃ x y z g h vs us, v = .tuple #[.agg #[x, y, z, g, h], J 0] ∧ SlAt w' g n vs ∧ SlAt w' h n us ∧ FSet 25 w.heap.size w' n x y z g h vs us))
theorem ask_makeFunc {P : Program} {K : Value → Prop} {f a ty : Nat} {p : Value} : Ask (rGen P (.makeFunc (.func f) #[] #[.tmp a]) ty [(a, p)]) K = K (.func (.func f) #[] #[p]) :=
  ask_eq (runsN_iff fun w => by simp [execOp, Instr.makeFunc, argsFn])
/-! ### the document's set -/
/-- The list, without zeros at its end. -/
def trim (l : List Nat) : List Nat := (l.reverse.dropWhile (· == 0)).reverse
def cFreeOf : Contract := fnW (Cods.cons cLS Cods.nil) (fun p _ => p.1.length ≤ mx) (fun p w v w' => ∃ x, v = EL x ∧ w'.ownsRow w.heap.size 289 4 x (trim p.1).length ((trim p.1).flatMap encS))
def Tfo : Table := T0.add 196 cRIsZ
theorem trim_step {l : List Nat} {k : Nat} (hk : k < l.length) (h0 : l[k] = 0) : trim (l.take (k + 1)) = trim (l.take k) := by
  rw [List.take_succ_eq_append_getElem hk, h0]
  generalize l.take k = r
  simp [trim]
theorem trim_last {l : List Nat} {k : Nat} (hk : k < l.length) (h0 : l[k] ≠ 0) : trim (l.take (k + 1)) = l.take (k + 1) := by
  rw [List.take_succ_eq_append_getElem hk]
  generalize l.take k = r
  generalize l[k] = a at h0
  simp [trim, h0]
def cJ : Cod Nat := ⟨fun _ v n => v = J n, fun _ _ _ _ h k => J_inj (h.symm.trans k)⟩
theorem trim_unit (k : Nat) : trim (unitL k) = unitL k := by simp [trim, unitL]
def cUnit : Contract := fnW (Cods.cons cJ Cods.nil) (fun p _ => p.1 ≤ 200) (fun p w v w' => ∃ x, v = EL x ∧ Uw 289 w.heap.size w' x p.1)
/-- The document's set over the lists. -/
def RF (x y z g h : Value) : Value := .agg ([J 3] ++ encEL x ++ encEL y ++ encEL z ++ [g, h]).toArray
def zRF : Value := .agg ([J 0] ++ zE ++ zE ++ zE ++ [Value.slice none 0 0, Value.slice none 0 0]).toArray
theorem oneJ3 : (J 3).oneCell' = true := rfl
section
variable {K : Value → Prop} {x y z g h u : Value}
theorem one_cells (hx : x.oneCell' = true) : x.cells = #[x] := by cases x <;> first | rfl | cases hx
theorem ask_updFG (hx : u.oneCell' = true) : Ask (rUpd (aggArr (RF x y z g h)) 79 1 u) K = K (RF x y z u h) := by
  refine ask_eq fun v => ?_
  have hc := one_cells hx
  have e : RF x y z u h = .agg (splice (aggArr (RF x y z g h)) 79 u.cells.toList) := by rw [hc]; rfl
  unfold rUpd
  rw [e]
  exact ⟨fun h => h.2.2.2, fun h => ⟨by show 79 + 1 ≤ 81; omega, by rw [hc]; rfl, by rw [hc]; simp [hx], h⟩⟩
theorem ask_updFH (hx : u.oneCell' = true) : Ask (rUpd (aggArr (RF x y z g h)) 80 1 u) K = K (RF x y z g u) := by
  refine ask_eq fun v => ?_
  have hc := one_cells hx
  have e : RF x y z g u = .agg (splice (aggArr (RF x y z g h)) 80 u.cells.toList) := by rw [hc]; rfl
  unfold rUpd
  rw [e]
  exact ⟨fun h => h.2.2.2, fun h => ⟨by show 80 + 1 ≤ 81; omega, by rw [hc]; rfl, by rw [hc]; simp [hx], h⟩⟩
theorem ask_aggRF (hx : x.oneCell' = true) (hy : y.oneCell' = true) (hz : z.oneCell' = true) (hg : g.oneCell' = true) (hh : h.oneCell' = true) : Ask (rAgg 81 (RF x y z g h)) K = K (RF x y z g h) :=
  ask_agg rfl (by simp only [List.all_toArray, List.all_append, List.all_cons, List.all_nil, one_encEL hx, one_encEL hy, one_encEL hz, hg, hh, oneJ3, Bool.and_true])
end
def cRBasis : Contract := fnW (Cods.cons cI Cods.nil) (fun _ _ => True) (fun p w v w' => ((p.1 < 0 ∨ 64 < p.1) → v = .tuple #[zRF, J 1]) ∧
  (∀ n : Nat, p.1 = n → n ≤ 64 → ∃ x y z g h vs us, v = .tuple #[RF x y z g h, J 0] ∧ SlAt w' g n (vs.flatMap encEL) ∧ SlAt w' h n (us.flatMap encEL) ∧ FSet 289 w.heap.size w' n x y z g h vs us))
end Go.Vc
