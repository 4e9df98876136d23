/-
  The law AlgebraRing: what a ring without a field's inverses fulfils.
-/
import Derived.Test.YtadnlcennghlbaaDAd
import Derived.Test.YtadnlcennghlbaaDAf
namespace Go.Vc
open Go Go.Proofs Go.RowKit
/-! ### in plain words -/
namespace Rg
section
variable {A : Type} (R : Rg A) {m : Nat} [NeZero m] {φ : A → Rm m} (h : R.Hom φ)
include h
end
end Rg
/-! ### lists of whole numbers -/
def encI (a : Int) : List Value := [.int .i64 a]
theorem encI_len (a : Int) : (encI a).length = 1 := rfl
theorem encI_inj {p q : Int} (h : encI p = encI q) : p = q := by simpa [encI] using h
def cLI : Cod (List Int) := cL encI (fun _ => True) 1 encI_len (fun _ _ _ _ h => encI_inj h)
def LsI (w : World) (v : Value) (l : List Int) : Prop := Ls encI (fun _ => True) w v l
theorem tyI : ElTy Try.prog 22 3 1 8 (J 0) := ⟨by kernel_rfl, by kernel_rfl⟩
theorem aggI : agg? Try.prog 3 = some false := by kernel_rfl
theorem a_andA {c d : Bool} {R : Value → Prop} {K : Value → Prop} (h : c = true → ∀ K' : Value → Prop, K' (.bool d) → Ask R K') (hK : K (.bool (c && d))) : AskG [(.bool c, true)] R fun x => Ask (rPick (.bool c) x (.bool false)) K := by
  cases c
  · refine a_G_off (condsV1_not (by decide)) fun _ => ?_
    rw [ask_pickF]; exact hK
  · refine a_G_on condsV1 (h rfl _ ?_)
    rw [ask_pickT]; exact hK
section
variable {X : Ctx} {u : World} {v : Value} {l : List Int} {i : Nat} {ow : List Nat} {K : Value → Prop}
theorem ld_I (hP : X.P = Try.prog) (hk : Kn X u) (h : LsI u v l) (hi : i < l.length) (how : ∀ b, v.ownBlock = some b → b ∉ ow)
    (hK : K (.int .i64 (l.getD i 0))) : Ask (rIad X.P 22 v (J i)) fun p => Ask (rLoad X u ow 3 p) K := by
  refine a_iadN hP tyI h.1 hi ?_
  refine a_load_one (c := .int .i64 l[i]) hk h.1 (by rw [hP]; exact aggI) how ?_ ?_
  · have := flat_at encI_len l i _ (List.getElem?_eq_getElem hi) 0 (.int .i64 l[i]) rfl
    simpa using this
  · rw [getD_lt _ hi] at hK; exact hK
end
/-! ### pairs -/
/-! ### the law -/
section
end
end Go.Vc
