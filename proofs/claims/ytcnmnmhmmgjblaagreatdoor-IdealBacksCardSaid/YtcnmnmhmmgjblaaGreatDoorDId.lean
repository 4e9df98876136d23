/-
  Sums, differences, products by residues, both sides; the document's elements over the scalars.
-/
import Derived.Test.YtcnmnmhmmgjblaaGreatDoorDIc
import Derived.Test.YtcnmnmhmmgjblaaGreatDoorDIz
import Derived.Test.YtcnmnmhmmgjblaaGreatDoorDMl
import Derived.Test.YtcnmnmhmmgjblaaGreatDoorDBas
namespace Go.Vc
open Go Go.Proofs Go.RowKit
/-! ### the program's -/
def cqAdd : Contract := fnP enc2 dom2 (fun p v => v = S (rF p.1 + rF p.2).val)
theorem keepsqAdd : Keeps1 Tryz.prog GT 29 cqAdd := by
  have h := keepsAdd
  have e : cAddS = cqAdd := by unfold cAddS cqAdd; simp only [val_addF]
  rwa [e] at h
def cqSub : Contract := fnP enc2 dom2 (fun p v => v = S (rF p.1 - rF p.2).val)
theorem keepsqSub : Keeps1 Tryz.prog GT 48 cqSub := by
  have h := keepsSub
  have e : cSubS = cqSub := by unfold cSubS cqSub; simp only [val_subF]
  rwa [e] at h
def cqMul : Contract := fnP enc2 dom2 (fun p v => v = S (rF p.1 * rF p.2).val)
theorem cMulS_q : cMulS = cqMul := by unfold cMulS cqMul; simp only [val_mulF]
theorem keepsqMul : Keeps1 Tryz.prog GT 49 cqMul := by
  have h := keepsMul
  rwa [cMulS_q] at h
def cqLeast : Contract := fnP enc1 (· < W256) (fun n v => v = S (rF n).val)
def cqIsZ : Contract := fnP enc1 (· < W256) (fun n v => v = .bool (decide (rF n = 0)))
theorem keepsqIsZ : Keeps1 Tryz.prog GT 30 cqIsZ := by
  have h := keepsIsZ
  have e : cIsZ = cqIsZ := by unfold cIsZ cqIsZ; simp only [rF_eq0]
  rwa [e] at h
/-! ### the document's -/
def cqRAdd : Contract := fnP enc2 domR (fun p v => v = S (rF p.1 + rF p.2).val)
theorem keepsqRAdd : Keeps1 Tryz.prog GT 106 cqRAdd := by
  have h := keepsRAdd
  have e : cRAdd = cqRAdd := by unfold cRAdd cqRAdd; simp only [val_addF]
  rwa [e] at h
theorem keepsqRMul : Keeps1 Tryz.prog GT 59 cqMul := by
  have h := keepsRMul
  rwa [cMulS_q] at h
theorem keepsqRLeast : Keeps1 Tryz.prog GT 15 cqLeast := keepsRleast
def cqRIsZ : Contract := fnP enc1 (· < lN) (fun n v => v = .bool (decide (rF n = 0)))
theorem rF_z {n : Nat} (h : n < lN) : rF n = 0 ↔ n = 0 := by rw [rF_eq0, Nat.mod_eq_of_lt h]
theorem keepsqRIsZ : Keeps1 Tryz.prog GT 54 cqRIsZ := keepsRIsZ.imp (fun args ⟨n, hn, ha⟩ => ⟨⟨n, l_W hn, ha⟩, fun v hv m hm hm' => by
  obtain rfl := inj1 m n (l_W hm) (l_W hn) (hm'.symm.trans ha)
  rw [hv m (l_W hm) ha]
  exact congrArg Value.bool (decide_eq_decide.2 (rF_z hm).symm)⟩) (fun _ _ h => h)
/-! ### elements -/
/-- The element of a residue. -/
def EF (e : F) : Value := E e.val
abbrev enc2F (p : F × F) : List Value := [EF p.1, EF p.2]
theorem val_inj {a b : F} (h : a.val = b.val) : a = b := _root_.Fin.ext h
theorem EF_inj {a b : F} (h : EF a = EF b) : a = b := val_inj (by
  unfold EF E at h
  simp only [Value.agg.injEq] at h
  exact encE_inj (val_lt a) (val_lt b) (by simpa using congrArg Array.toList h))
def Tel : Table := ((T0.add 106 cqRAdd).add 59 cqMul).add 119 cLineOfS
theorem keepTel : AllKeep Tryz.prog GT Tel := ((keepT0.add keepsqRAdd).add keepsqRMul).add keepsLineOf
def cqEAdd : Contract := fnP enc2F (fun _ => True) (fun p v => v = EF (p.1 + p.2))
theorem keepsqEAdd : Keeps1 Tryz.prog GT 132 cqEAdd := by
  refine keepsP (T := Tel) (A := ann132) (fun a b _ _ h => by
    simp only [List.cons.injEq, and_true] at h
    exact Prod.ext (EF_inj h.1) (EF_inj h.2)) hMix keepTel hGT (calls_of (by kernel_rfl)) (callsW_of (by kernel_rfl)) fun ⟨a, b⟩ w0 _ _ => ⟨[.x (.v 0), .x (.v 1)], [], [], 3, env0 [E a.val, E b.val] w0, fun b => b, 0, rfl, rfl, fun X hX => mem_none hX rfl, fun X hP hS hw hX hR => ?_⟩
  subst hw
  dsimp only at hR
  rw [vc132 X]
  rw [ask_aggE]; intro _ _; rw [ask_aggE]; intro _ _ _ _
  rw [ask_selK, ask_eqlJ]
  refine a_ifD (fun h => by cases h) fun _ => ?_
  rw [ask_eqlJ]
  refine a_ifD (fun _ => ?_) fun h => absurd rfl h
  rw [ask_selE, ask_selE]
  refine call_PE hS (T := Tel) (f := 106) rfl (a.val, b.val) ⟨a.isLt, b.isLt⟩ ?_
  refine call_PE hS (T := Tel) (f := 119) rfl _ (val_lt _) ?_
  dsimp only
  rw [rF_val, rF_val, ask_aggE]
  exact hR _ _ _ _ rfl
def encFS (p : F × Nat) : List Value := [EF p.1, S p.2]
def cqETimes : Contract := fnP encFS (fun p => p.2 < W256) (fun p v => v = EF (p.1 * rF p.2))
theorem keepsqETimes : Keeps1 Tryz.prog GT 131 cqETimes := by
  refine keepsP (T := Tel) (A := ann131) (fun a b ha hb h => by
    simp only [encFS, List.cons.injEq, and_true] at h
    exact Prod.ext (EF_inj h.1) (S_inj ha hb h.2)) hMix keepTel hGT (calls_of (by kernel_rfl)) (callsW_of (by kernel_rfl)) fun ⟨a, b⟩ w0 hb _ => ⟨[.x (.v 0), .x (.v 1)], [], [], 3, env0 [E a.val, S b] w0, fun b => b, 0, rfl, rfl, fun X hX => mem_none hX rfl, fun X hP hS hw hX hR => ?_⟩
  subst hw
  dsimp only at hb hR
  rw [vc131 X]
  rw [ask_aggE]; intro _ _; rw [ask_aggS]; intro _ _ _ _
  rw [ask_selK, ask_eqlJ]
  refine a_ifD (fun h => by cases h) fun _ => ?_
  rw [ask_eqlJ]
  refine a_ifD (fun _ => ?_) fun h => absurd rfl h
  rw [ask_selE]
  refine call_PE hS (T := Tel) (f := 59) rfl (a.val, b) ⟨val_lt a, hb⟩ ?_
  refine call_PE hS (T := Tel) (f := 119) rfl _ (val_lt _) ?_
  dsimp only
  rw [rF_val, ask_aggE]
  exact hR _ _ _ _ rfl
end Go.Vc
