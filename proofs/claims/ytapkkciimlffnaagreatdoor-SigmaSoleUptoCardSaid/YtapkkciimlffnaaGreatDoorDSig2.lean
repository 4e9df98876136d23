/-
  isLines, isClaim, SigmaClaims: walked.
-/
import Derived.Test.YtapkkciimlffnaaGreatDoorDSig
namespace Go.Vc
open Go Go.Proofs Go.RowKit

theorem encE_K {n j : Nat} {c : Value} (h : (encS n)[j]? = some c) : (encE n)[21 + j]? = some c := by
  match j with
  | 0 | 1 | 2 | 3 => exact h
  | j + 4 => simp [encS] at h
theorem a4S : A4 Tryz.prog 25 23 := ⟨by kernel_rfl, by kernel_rfl, by kernel_rfl, by kernel_rfl⟩
theorem a4R : A4 Tryz.prog 289 23 := ⟨by kernel_rfl, by kernel_rfl, by kernel_rfl, by kernel_rfl⟩
theorem aggS : agg? Tryz.prog 25 = some true := by kernel_rfl
theorem szS : sz Tryz.prog 25 = some 4 := by kernel_rfl
theorem aggR : agg? Tryz.prog 289 = some true := by kernel_rfl
theorem szR : sz Tryz.prog 289 = some 4 := by kernel_rfl
theorem fdLine : FdTy Tryz.prog 48 0 0 := ⟨3, by kernel_rfl⟩
theorem slAt_bd {w : World} {v : Value} {n : Nat} {xs : List Value} (h : SlAt w v n xs) : n < 2 ^ 63 := by
  rcases h with ⟨_, hn, _⟩ | ⟨_, _, _, _, hn, _⟩
  · omega
  · have := Nat.le_trans hn.1 hn.2; unfold maxLen at this; omega

def cIsLines : Contract := fnW (Cods.cons cLS (Cods.cons cLE Cods.nil)) (fun _ _ => True) (fun p _ v _ => v = .bool (decide (p.1.map (· % lN) = p.2.1)))
def Til : Table := T0.add 33 cLeastS
theorem keepTil : AllKeep Tryz.prog GT Til := keepT0.add keepsLeast
theorem map_step {a b : List Nat} {k : Nat} (ha : k < a.length) (hb : k < b.length) (h : (a.take k).map (· % lN) = b.take k) (he : a[k] % lN = b[k]) : (a.take (k + 1)).map (· % lN) = b.take (k + 1) := by
  rw [List.take_succ_eq_append_getElem ha, List.take_succ_eq_append_getElem hb, List.map_append, h, List.map_singleton, he]
def lm (l : List Nat) : List Nat := l.map (· % lN)
def cIsClaim : Contract := fnW (Cods.cons cClaim (Cods.cons cRClaim Cods.nil)) (fun _ _ => True) (fun p _ v _ => v = .bool (decide (p.1.1.map lm = p.2.1.1 ∧ lm p.1.2 = p.2.1.2)))
theorem mapL_step {a b : List (List Nat)} {k : Nat} (ha : k < a.length) (hb : k < b.length) (h : (a.take k).map lm = b.take k) (he : lm a[k] = b[k]) : (a.take (k + 1)).map lm = b.take (k + 1) := by
  rw [List.take_succ_eq_append_getElem ha, List.take_succ_eq_append_getElem hb, List.map_append, h, List.map_singleton, he]
end Go.Vc
