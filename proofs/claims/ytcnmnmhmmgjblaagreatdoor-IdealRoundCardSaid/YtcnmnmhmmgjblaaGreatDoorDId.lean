/-
  Sums, differences, products by residues, both sides; the document's elements over the scalars.
-/
import Derived.Test.YtcnmnmhmmgjblaaGreatDoorDIc
import Derived.Test.YtcnmnmhmmgjblaaGreatDoorDIz
import Derived.Test.YtcnmnmhmmgjblaaGreatDoorDMl
import Derived.Test.YtcnmnmhmmgjblaaGreatDoorDBas
namespace Go.Vc
open Go Go.Proofs Go.RowKit
/-! ### the program's -/
def cqAdd : Contract := fnP enc2 dom2 (fun p v => v = S (rF p.1 + rF p.2).val)
theorem keepsqAdd : Keeps1 Tryz.prog GT 29 cqAdd := by
  have h := keepsAdd
  have e : cAddS = cqAdd := by unfold cAddS cqAdd; simp only [val_addF]
  rwa [e] at h
def cqSub : Contract := fnP enc2 dom2 (fun p v => v = S (rF p.1 - rF p.2).val)
theorem keepsqSub : Keeps1 Tryz.prog GT 48 cqSub := by
  have h := keepsSub
  have e : cSubS = cqSub := by unfold cSubS cqSub; simp only [val_subF]
  rwa [e] at h
def cqMul : Contract := fnP enc2 dom2 (fun p v => v = S (rF p.1 * rF p.2).val)
theorem cMulS_q : cMulS = cqMul := by unfold cMulS cqMul; simp only [val_mulF]
theorem keepsqMul : Keeps1 Tryz.prog GT 49 cqMul := by
  have h := keepsMul
  rwa [cMulS_q] at h
def cqLeast : Contract := fnP enc1 (· < W256) (fun n v => v = S (rF n).val)
theorem keepsqLeast : Keeps1 Tryz.prog GT 71 cqLeast := keepsLeast
def cqIsZ : Contract := fnP enc1 (· < W256) (fun n v => v = .bool (decide (rF n = 0)))
theorem keepsqIsZ : Keeps1 Tryz.prog GT 30 cqIsZ := by
  have h := keepsIsZ
  have e : cIsZ = cqIsZ := by unfold cIsZ cqIsZ; simp only [rF_eq0]
  rwa [e] at h
def cqSame : Contract := fnP enc2 dom2 (fun p v => v = .bool (decide (rF p.1 = rF p.2)))
theorem keepsqSame : Keeps1 Tryz.prog GT 34 cqSame := by
  have h := keepsSame
  have e : cSameS = cqSame := by unfold cSameS cqSame; simp only [rF_eq]
  rwa [e] at h
/-! ### the document's -/
/-! ### elements -/
theorem val_inj {a b : F} (h : a.val = b.val) : a = b := _root_.Fin.ext h
end Go.Vc
