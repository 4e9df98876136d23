/-
  Both ways back say the same.
-/
import Derived.Test.YtcnmnmhmmgjblaaGreatDoorDIl
namespace Go.Vc
open Go Go.Proofs Go.RowKit
theorem getD_mapF (l : List Nat) (i : Nat) : (l.map rF).getD i 0 = rF (l.getD i 0) := by
  rw [List.getD_eq_getElem?_getD, List.getElem?_map, List.getD_eq_getElem?_getD]
  cases l[i]? <;> rfl
theorem getD_rep (n i : Nat) : (List.replicate n (0 : F)).getD i 0 = 0 := by
  rw [List.getD_eq_getElem?_getD, List.getElem?_replicate]
  split <;> rfl
theorem sumF'_add (f g : Nat → F) : ∀ n, sumF' (fun i => f i + g i) n = sumF' f n + sumF' g n
  | 0 => _root_.Fin.ext rfl
  | n + 1 => by simp only [sumF', sumF'_add f g n]; grind
/-- Openings, their blindings least. -/
def redO (l : List (Nat × Nat)) : List (Nat × Nat) := l.map fun o => (o.1, o.2 % lN)
theorem redO_len (l : List (Nat × Nat)) : (redO l).length = l.length := by simp [redO]
theorem redO_v (l : List (Nat × Nat)) (j : Nat) : vAt (redO l) j = vAt l j := by
  unfold vAt redO
  rw [List.getD_eq_getElem?_getD, List.getElem?_map, List.getD_eq_getElem?_getD]
  cases l[j]? <;> rfl
theorem redO_b (l : List (Nat × Nat)) (j : Nat) : rF (bAt (redO l) j) = rF (bAt l j) := by
  unfold bAt redO
  rw [List.getD_eq_getElem?_getD, List.getElem?_map, List.getD_eq_getElem?_getD]
  cases l[j]? with
  | none => rfl
  | some o => exact rF_mod o.2
theorem redO_bit (l : List (Nat × Nat)) (m i : Nat) : bitF (redO l) m i = bitF l m i := by
  unfold bitF bitN; rw [redO_v]
theorem redO_bad (b : Int) (l : List (Nat × Nat)) : badV b (redO l) = badV b l := by
  unfold badV redO
  rw [List.any_map]
  rfl
/-- What the document's is asked. -/
def BkP.doc (q : BkP) : Bk := ⟨(rF q.p.1, rF q.p.2.1, rF q.p.2.2.1, q.p.2.2.2.1.map rF, q.p.2.2.2.2.map rF), q.b, q.c, redO q.vs, rF q.y, rF q.z, rF q.x, (rF q.t.1, rF q.t.2.1, rF q.t.2.2.1, rF q.t.2.2.2.1, q.t.2.2.2.2.1.map rF, q.t.2.2.2.2.2.map rF)⟩
theorem zer_eq (y z x : Nat) : zer (rF y) (rF z) (rF x) = zerL [y, z, x] := by simp [zer, zerL, Bool.or_assoc]
theorem doc_fit (q : BkP) : q.doc.fit = q.fit := by
  unfold Bk.fit BkP.fit BkP.doc
  simp only [List.length_map]
  unfold fitsE
  rw [redO_len, redO_bad]
theorem doc_err (q : BkP) : q.doc.err = q.err := by
  unfold Bk.err BkP.err
  rw [doc_fit]
  have : zer q.doc.y q.doc.z q.doc.x = zerL [q.y, q.z, q.x] := zer_eq _ _ _
  rw [this]
  rfl
section
variable (q : BkP)
theorem doc_N : q.doc.N = q.N := rfl
theorem doc_dsl (i : Nat) : q.doc.dsl i = q.dsl i := by
  have e : (q.doc.wh q.doc.still).l i = q.bit i - rF q.z + 0 * rF q.x := by
    show (bitF (redO q.vs) q.m i - rF q.z) + (List.replicate q.N (0 : F)).getD i 0 * rF q.x = _
    rw [getD_rep, redO_bit]; rfl
  have h : q.doc.dsl i = ((q.t.2.2.2.2.1.map rF).getD i 0 - (q.doc.wh q.doc.still).l i) * finv (rF q.x) := rfl
  rw [h, e, getD_mapF]
  unfold BkP.dsl
  generalize finv (rF q.x) = ix
  grind
theorem doc_dsr (hy : rF q.y ≠ 0) (i : Nat) : q.doc.dsr i = q.dsr i := by
  have e : (q.doc.wh q.doc.still).r i = fp (rF q.y) i * (q.bit i - 1 + rF q.z) + q.wt i + fp (rF q.y) i * 0 * rF q.x := by
    show fp (rF q.y) i * (bitF (redO q.vs) q.m i - 1 + rF q.z) + q.wt i + fp (rF q.y) i * (List.replicate q.N (0 : F)).getD i 0 * rF q.x = _
    rw [getD_rep, redO_bit]; rfl
  have h : q.doc.dsr i = ((q.t.2.2.2.2.2.map rF).getD i 0 - (q.doc.wh q.doc.still).r i) * finv (rF q.x) * fp (finv (rF q.y)) i := rfl
  rw [h, e, getD_mapF]
  unfold BkP.dsr
  rw [finv_fp]
  have hu := fp_ne hy i
  generalize finv (rF q.x) = ix
  generalize fp (finv (rF q.y)) i = u at *
  generalize fp (rF q.y) i = Y at *
  grind
theorem doc_out : q.doc.out = q.out := by
  by_cases hne : ¬ q.err = 0
  · have he := hne
    unfold Bk.out BkP.out
    rw [doc_err, if_neg he, if_neg he]
  have he : q.err = 0 := Decidable.not_not.1 hne
  have hd : q.doc.err = 0 := by rw [doc_err]; exact he
  have hy : rF q.y ≠ 0 := fun h => by
    unfold BkP.err at he
    split at he
    · rename_i h1; exact h1 he
    · rw [if_pos (by simp [zerL, h])] at he; cases he
  have el : mapN q.doc.dsl q.N = mapN q.dsl q.N := mapN_congr fun i _ => doc_dsl q i
  have er : mapN q.doc.dsr q.N = mapN q.dsr q.N := mapN_congr fun i _ => doc_dsr q hy i
  have hS : (q.doc.wh q.doc.half).Sg = logF q.p.2.2.2.1 q.dsl q.N + logF q.p.2.2.2.2 q.dsr q.N := by
    have h : (q.doc.wh q.doc.half).Sg = rF q.p.2.1 * 0 + sumF' (vecF (q.p.2.2.2.1.map rF) (q.p.2.2.2.2.map rF) (mapN q.doc.dsl q.N) (mapN q.doc.dsr q.N)) (mapN q.doc.dsl q.N).length := rfl
    rw [h, el, er, mapN_len]
    unfold logF
    rw [← sumF'_add, sumF'_congr q.N (g := fun i => q.dsl i * rF (q.p.2.2.2.1.getD i 0) + q.dsr i * rF (q.p.2.2.2.2.getD i 0)) fun i hi => by
      unfold vecF
      rw [getD_mapF, getD_mapF, mapN_get _ 0 hi, mapN_get _ 0 hi]
      generalize q.dsl i = a
      generalize q.dsr i = b
      grind]
    generalize sumF' _ _ = s
    grind
  have hT2 : (q.doc.wh q.doc.half).T2 = rF q.p.1 * q.t2 q.N + rF q.p.2.1 * 0 := by
    have h : (q.doc.wh q.doc.half).T2 = rF q.p.1 * sumF' (fun i => (mapN q.doc.dsl q.N).getD i 0 * (fp (rF q.y) i * (mapN q.doc.dsr q.N).getD i 0)) q.N + rF q.p.2.1 * 0 := rfl
    rw [h, el, er]
    unfold BkP.t2
    rw [sumF'_congr q.N (g := fun i => q.dsl i * q.dsr i * fp (rF q.y) i) fun i hi => by
      show (mapN q.dsl q.N).getD i 0 * (fp (rF q.y) i * (mapN q.dsr q.N).getD i 0) = _
      rw [mapN_get _ 0 hi, mapN_get _ 0 hi]
      generalize q.dsl i = a
      generalize q.dsr i = b
      grind]
  have hb : (q.doc.wh q.doc.half).blinds q.n = q.blinds q.n := sumF'_congr _ fun j _ => by
    show fp (rF q.z) (2 + j) * rF (bAt (redO q.vs) j) = _
    rw [redO_b]
  have htx : (q.doc.wh q.doc.half).taux = 0 * rF q.x + 0 * rF q.x * rF q.x + q.blinds q.n := by
    rw [← hb]; rfl
  have e1 : q.doc.rho = q.rho := by
    have h : q.doc.rho = (rF q.t.2.2.1 - (q.doc.wh q.doc.half).Sg) * finv (rF q.p.2.1) := rfl
    rw [h, hS]
    unfold BkP.rho
    generalize finv (rF q.p.2.1) = ib
    generalize logF _ _ _ = u
    generalize logF _ _ _ = v
    grind
  have e2 : q.doc.alpha = q.alpha := by
    have h : q.doc.alpha = rF q.t.2.1 - q.doc.rho * rF q.x := rfl
    rw [h, e1]; rfl
  have e3 : q.doc.tau2 = q.tau2 := by
    have h : q.doc.tau2 = (rF q.t.2.2.2.1 - (q.doc.wh q.doc.half).T2) * finv (rF q.p.2.1) := rfl
    rw [h, hT2]
    unfold BkP.tau2
    generalize finv (rF q.p.2.1) = ib
    generalize q.t2 q.N = u
    grind
  have e4 : q.doc.tau1 = q.tau1 := by
    have h : q.doc.tau1 = (rF q.t.1 - (q.doc.wh q.doc.half).taux - q.doc.tau2 * rF q.x * rF q.x) * finv (rF q.x) := rfl
    rw [h, htx, e3]
    unfold BkP.tau1
    generalize finv (rF q.x) = ix
    generalize q.tau2 = t
    generalize q.blinds q.n = u
    grind
  unfold Bk.out BkP.out
  rw [if_pos hd, if_pos he, doc_N, el, er, e1, e2, e3, e4]
end
#print axioms doc_out
end Go.Vc
