/-
  The sets in which there is no relation: unit lists, by a map, on the program's side.
-/
import Derived.Test.YtapkkciimlffnaaGreatDoorDZip2
import Derived.Test.YtapkkciimlffnaaGreatDoorDRm
import Derived.Test.YtapkkciimlffnaaGreatDoorVcMut
namespace Go.Vc
open Go Go.Proofs Go.RowKit

/-- 1 in place k, 0 ahead of it. -/
def unitL (k : Nat) : List Nat := List.replicate k 0 ++ [1]
theorem unit_len (k : Nat) : (unitL k).length = k + 1 := by simp [unitL]
theorem unit_set (k : Nat) : (List.replicate (k + 1) 0).set k 1 = unitL k := by
  unfold unitL
  rw [List.replicate_succ', List.set_append_right _ _ (by simp)]
  simp
theorem unit_ok (k : Nat) : ∀ x ∈ unitL k, okS x := fun x hx => by
  simp only [unitL, List.mem_append, List.mem_replicate, List.mem_singleton] at hx
  rcases hx with ⟨_, rfl⟩ | rfl <;> (unfold okS; decide)
theorem unit_lt (k : Nat) : ∀ x ∈ unitL k, x < lN := fun x hx => by
  simp only [unitL, List.mem_append, List.mem_replicate, List.mem_singleton] at hx
  rcases hx with ⟨_, rfl⟩ | rfl <;> decide
theorem makeS (n : Nat) : (madeCells (Value.agg #[U 0, U 0, U 0, U 0]).cells (n * 4)).toList = (List.replicate n 0).flatMap encS := made_enc (α := Nat) (enc := encS) (a := 0) (s := 4) (by kernel_rfl) rfl (by decide) n

def ann7 : Ann := ⟨[], [], 70, [], [2], none, [], []⟩
theorem vc7 (X : Ctx) (β : Nat → Nat) (x0 : Value) : (run Tryz.prog ann7 7 [.x (.v 0)] [] [] 2).den X (env0 [x0] X.w0) 2 β 0 (fun _ _ _ => False) = (
  Ask (rAgg 4 (.agg #[(U 0), (U 0), (U 0), (U 0)])) fun _ =>
  AskNew X.w0 fun b0 =>
  Ask (rPlain x0) fun x3 =>
  Ask (rAgg 4 (.agg #[x3, (U 0), (U 0), (U 0)])) fun x4 =>
  Ret X X.w0 [b0] [] x4) := by kernel_rfl
theorem keepsSInt : Keeps1 Tryz.prog GT 7 cRInt := by
  refine keepsP (T := T0) (A := ann7) (fun a b _ _ h => U_inj' (by simpa using h)) hMix keepT0 hGT (calls_of (by kernel_rfl)) (callsW_of (by kernel_rfl)) fun n w0 hn _ => ⟨[.x (.v 0)], [], [], 2, env0 [U n] w0, fun b => b, 0, rfl, rfl, fun X hX => mem_none hX rfl, fun X hP hS hw hX hR => ?_⟩
  subst hw
  rw [vc7 X]
  rw [ask_zero4]; intro _ _
  rw [ask_uplain, S_small hn, ask_aggS]
  exact hR _ _ _ _ rfl

/-- Where a kind's generator has its 1. -/
def plc (k i n : Nat) : Nat := if k = 1 then 0 else if k = 2 then 1 else if k = 3 then 2 else if k = 4 then 3 + i else 3 + n + i
theorem tyFree : ElTy Tryz.prog 27 32 1 24 (.agg #[.slice none 0 0]) := ⟨by kernel_rfl, by kernel_rfl⟩
theorem intTy' : Tryz.prog.underlying 3 = some (.int .i64) := by kernel_rfl
theorem aggInt : agg? Tryz.prog 3 = some false := by kernel_rfl
theorem isKeyJ (n : Int) : MapKept.IsKey (.int .i64) (.int .i64 n) := by simp [MapKept.IsKey]

/-- The closure's arguments: kind and number, and where the set's size lies. -/
def cClo : Cods (Nat × Nat × Nat) := ⟨fun w l p => ∃ b, l = [J p.1, J p.2.1, .pointer (some ⟨b, 0, none⟩)] ∧ w.cell? ⟨b, 0, none⟩ = some (J p.2.2), fun w l ⟨k, i, n⟩ ⟨k', i', n'⟩ ⟨b, e, h⟩ ⟨b', e', h'⟩ => by
  dsimp only at e h e' h'
  rw [e] at e'
  simp only [List.cons.injEq, Value.pointer.injEq, Option.some.injEq, Addr.mk.injEq, and_true] at e'
  obtain ⟨e1, e2, rfl⟩ := e'
  rw [h] at h'
  obtain rfl := J_inj e1
  obtain rfl := J_inj e2
  obtain rfl := J_inj (Option.some.inj h')
  rfl⟩
def cBasisC : Contract := fnW cClo (fun p _ => 1 ≤ p.1 ∧ p.1 ≤ 5 ∧ p.2.1 ≤ 64 ∧ p.2.2 ≤ 64)
  (fun p w v w' => ∃ x, v = .agg #[x] ∧ w'.ownsRow w.heap.size 25 4 x (plc p.1 p.2.1 p.2.2 + 1) ((unitL (plc p.1 p.2.1 p.2.2)).flatMap encS))
def Tsi : Table := T0.add 7 cRInt
theorem keepTsi : AllKeep Tryz.prog GT Tsi := keepT0.add keepsSInt
end Go.Vc
