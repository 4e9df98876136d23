/-
  Rules: a slice as a pointer to an array; the field of a struct of one field.
-/
import Derived.Test.YtpfidanjeacihaaGreatDoorDFr11
namespace Go.Vc
open Go Go.Proofs Go.RowKit

theorem a_arrP {P : Program} {X : Ctx} {K : Value → Prop} {t e ty a n len cap : Nat} {p : Addr} (hP : X.P = P) (hu : P.underlying t = some (.array n e)) (hn : n ≤ len) (hK : K (.pointer (some p))) : Ask (rGen X.P (.sliceToArrayPointer t (.tmp a)) ty [(a, .slice (some p) len cap)]) K := by
  subst hP
  have e : Ask (rGen X.P (.sliceToArrayPointer t (.tmp a)) ty [(a, .slice (some p) len cap)]) K = K (.pointer (some p)) := ask_eq (runsN_iff fun w => by
    simp [execOp, argsFn, Instr.arrayAt, run_underlying hu, Nat.not_lt.2 hn])
  rw [e]; exact hK
theorem uFree : (Tryz.prog.underlying 30).bind (fun d => match d with | .struct fs => fs[0]?.map fun f => (f.offset, f.type) | _ => none) = some (0, 22) := by kernel_rfl
theorem uSlS : Tryz.prog.underlying 22 = some (.slice 25) := by kernel_rfl
theorem a_fldF {X : Ctx} {K : Value → Prop} {x : Value} (hP : X.P = Tryz.prog) (hK : K x) : Ask (rFld X.P 30 (.agg #[x]) 0) K := by
  have h := uFree
  have e : Ask (rFld X.P 30 (.agg #[x]) 0) K = K x := ask_eq (runs_iff fun w => by
    rw [hP]
    cases hu : Tryz.prog.underlying 30 with
    | none => rw [hu] at h; cases h
    | some d =>
      rw [hu] at h
      cases d with
      | struct fs =>
        simp only [Option.bind_some, Option.map_eq_some_iff, Prod.mk.injEq] at h
        obtain ⟨fd, h1, h2, h3⟩ := h
        simp [Instr.field, run_underlying hu, h1, h2, h3, asAgg, part, isAgg, run_underlying uSlS]
      | _ => cases h)
  rw [e]; exact hK
#print axioms a_fldF
#print axioms a_arrP
end Go.Vc
