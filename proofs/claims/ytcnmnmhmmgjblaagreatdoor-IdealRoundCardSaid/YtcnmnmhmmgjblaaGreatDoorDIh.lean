import Derived.Test.YtcnmnmhmmgjblaaGreatDoorDIe
/-
  The document's set of generators over the scalars: commitments, sums of vectors, bits.
-/
namespace Go.Vc
open Go Go.Proofs Go.RowKit
/-! ### elements, sets -/
section
variable {X : Ctx} {u : World} {v : Value} {n i : Nat} {ow : List Nat} {K : Value → Prop}
end
section
variable {X : Ctx} {K : Value → Prop}
end
/-! ### openings, bits -/
/-- A value and its blinding. -/
def encO (p : Nat × Nat) : List Value := U p.1 :: encS p.2
def okO (p : Nat × Nat) : Prop := p.1 < B64 ∧ p.2 < W256
theorem encO_len (p : Nat × Nat) : (encO p).length = 5 := rfl
theorem encO_inj (a b : Nat × Nat) (ha : okO a) (hb : okO b) (h : encO a = encO b) : a = b := by
  simp only [encO, List.cons.injEq] at h
  exact Prod.ext (U_inj' h.1) (encS_inj ha.2 hb.2 h.2)
theorem one_encO (p : Nat × Nat) : (encO p).all (·.oneCell') = true := by simp [encO, encS, U, Value.oneCell']
def cLO : Cod (List (Nat × Nat)) := cL encO okO 5 encO_len (fun a b ha hb h => encO_inj a b ha hb h)
theorem cLO_stable : cLO.Stable := cL_stable
abbrev LsO := Ls encO okO
def vAt (l : List (Nat × Nat)) (j : Nat) : Nat := (l.getD j (0, 0)).1
def bAt (l : List (Nat × Nat)) (j : Nat) : Nat := (l.getD j (0, 0)).2
theorem okO_at {w : World} {v : Value} {l : List (Nat × Nat)} (h : LsO w v l) (j : Nat) : okO (l.getD j (0, 0)) := by
  rw [List.getD_eq_getElem?_getD]
  cases hj : l[j]? with
  | none => exact ⟨show 0 < B64 by decide, show 0 < W256 by decide⟩
  | some x => exact h.2 x (List.mem_of_getElem? hj)
/-- Bit i of all values. -/
def bitN (l : List (Nat × Nat)) (m i : Nat) : Nat := vAt l (i / m) / 2 ^ (i % m) % 2
theorem bitN_lt (l : List (Nat × Nat)) (m i : Nat) : bitN l m i < 2 := Nat.mod_lt _ (by decide)
def bitF (l : List (Nat × Nat)) (m i : Nat) : F := rF (bitN l m i)
theorem bitF_S (l : List (Nat × Nat)) (m i : Nat) : S (bitN l m i) = S (bitF l m i).val := by
  rw [bitF, val_of_lt (Nat.lt_trans (bitN_lt l m i) (by decide))]
section
variable {X : Ctx} {u : World} {v : Value} {n i : Nat} {ow : List Nat} {K : Value → Prop} {l : List (Nat × Nat)}
theorem aggU64 : agg? Tryz.prog 22 = some false := by kernel_rfl
theorem getD_O (hi : i < l.length) : l.getD i (0, 0) = l[i] := by rw [List.getD_eq_getElem?_getD, List.getElem?_eq_getElem hi]; rfl
end
/-- Params as they come: bits, values. -/
def cPn : Cod (Nat × Nat) := ⟨fun _ v p => v = Pv p.1 p.2, fun _ _ a b h k => by
  obtain ⟨h1, h2⟩ := Pv_inj (h.symm.trans k)
  exact Prod.ext (by omega) (by omega)⟩
def cJn' : Cod Nat := ⟨fun _ v n => v = J n, fun _ _ _ _ h k => J_injI (h.symm.trans k)⟩
end Go.Vc

/-
  What the document's prover says (veilref13.Whole), over the scalars.
-/
namespace Go.Vc
open Go Go.Proofs Go.RowKit
/-! ### lists by their places -/
def mapN {α : Type} (f : Nat → α) (n : Nat) : List α := (List.range n).map f
theorem mapN_len {α : Type} (f : Nat → α) (n : Nat) : (mapN f n).length = n := by simp [mapN]
theorem mapN_succ {α : Type} (f : Nat → α) (n : Nat) : mapN f (n + 1) = mapN f n ++ [f n] := by simp [mapN, List.range_succ]
theorem mapN_get {α : Type} (f : Nat → α) {n i : Nat} (d : α) (h : i < n) : (mapN f n).getD i d = f i := by
  rw [List.getD_eq_getElem?_getD, List.getElem?_eq_getElem (by rw [mapN_len]; exact h)]
  simp [mapN]
theorem mapN_congr {α : Type} {f g : Nat → α} {n : Nat} (h : ∀ i, i < n → f i = g i) : mapN f n = mapN g n := by
  unfold mapN
  exact List.map_congr_left fun i hi => h i (by simpa using hi)
/-! ### what is made up, what is said -/
/-- A prover's tape: Alpha, Rho, Tau1, Tau2, SL, SR. -/
abbrev TpF : Type := F × F × F × F × List F × List F
def tpL (t : TpF) (l r : Value) : List Value := encF t.1 ++ encF t.2.1 ++ encF t.2.2.1 ++ encF t.2.2.2.1 ++ [l, r]
theorem tpL_len (t : TpF) (l r : Value) : (tpL t l r).length = 18 := rfl
theorem tpL_one {t : TpF} {l r : Value} (hl : l.oneCell' = true) (hr : r.oneCell' = true) : (tpL t l r).all (·.oneCell') = true := by
  simp only [tpL, List.all_append, one_encF, List.all_cons, List.all_nil, hl, hr, Bool.and_true]
namespace Wh
end Wh
theorem own_diffI {w : World} {b1 b2 s1 s2 n1 n2 : Nat} {e1 e2 : TypeId} {v1 v2 : Value} {x1 x2 : List Value} (h1 : w.ownsRow b1 e1 s1 v1 n1 x1) (h2 : w.ownsRow b2 e2 s2 v2 n2 x2) (hne : e1 ≠ e2) : ∀ g, v1.ownBlock = some g → g ∉ v2.ownBlock.toList := by
  intro g hg hm
  rcases h1.2 with ⟨rfl, _⟩ | ⟨g1, cap1, cur1, rfl, _, hg1, _⟩
  · cases hg
  rcases h2.2 with ⟨rfl, _⟩ | ⟨g2, cap2, cur2, rfl, _, hg2, _⟩
  · simp [Value.ownBlock] at hm
  · simp [Value.ownBlock] at hm hg
    subst hm hg
    rw [hg1] at hg2
    simp only [Option.some.injEq, Obj.cells.injEq] at hg2
    exact hne hg2.2.1
/-- Cells in the middle of an aggregate overwritten. -/
theorem a_upd3 {K : Value → Prop} {c : Array Value} {pos m : Nat} {x : Value} (l1 l2 l3 ds : List Value) (hc : c.toList = l1 ++ l2 ++ l3) (hx : x.cells.toList = ds) (h1 : l1.length = pos) (h2 : l2.length = m) (h3 : ds.length = m) (ho : ds.all (·.oneCell') = true) (hK : K (.agg (l1 ++ ds ++ l3).toArray)) : Ask (rUpd c pos m x) K := by
  have e : Ask (rUpd c pos m x) K = K (.agg (l1 ++ ds ++ l3).toArray) := ask_eq fun v => by
    unfold rUpd
    have es : splice c pos x.cells.toList = (l1 ++ ds ++ l3).toArray := by
      unfold splice
      rw [hx, hc, h3, ← h1, ← h2]
      congr 2
      · rw [List.append_assoc, List.take_left' rfl]
      · rw [← List.length_append, List.drop_left' rfl]
    have hsz : pos + m ≤ c.size := by
      have := congrArg List.length hc
      simp at this; omega
    have hxs : x.cells.size = m := by rw [← h3, ← hx]; simp
    have hxo : x.cells.all (·.oneCell') = true := by
      rw [← hx] at ho
      simpa using ho
    rw [es]
    exact ⟨fun h => h.2.2.2, fun h => ⟨hsz, hxs, hxo, h⟩⟩
  rw [e]; exact hK
section
variable {X : Ctx} {K : Value → Prop}
end
end Go.Vc

/-
  What is looked at first: the errors of a prover, both sides; powers.
-/
namespace Go.Vc
open Go Go.Proofs Go.RowKit
section
variable {X : Ctx} {c d : Bool} {R1 : Value → Prop} {R2 : Value → Value → Prop} {R3 : Value → Value → Value → Prop} {K : Value → Prop} {f : Nat} {args : List Value}
theorem a_or2 (h : c = false → ∀ K' : Value → Prop, K' (.bool d) → Ask R1 fun x => Ask (R2 x) K') (hK : K (.bool (c || d))) :
    AskG [(.bool c, false)] R1 fun x => AskG [(.bool c, false)] (R2 x) fun y => Ask (rPick (.bool c) (.bool true) y) K := by
  cases c
  · have h0 := h rfl (fun v => v = .bool d) rfl
    refine a_G_on condsV1 ⟨h0.1, fun x hx => ?_⟩
    have h1 := h0.2 x hx
    refine a_G_on condsV1 ⟨h1.1, fun y hy => ?_⟩
    rw [h1.2 y hy]
    show Ask (rPick (.bool false) (.bool true) (.bool d)) K
    rw [ask_pickF]; exact hK
  · iterate 2 refine a_G_off (condsV1_not (by decide)) fun _ => ?_
    rw [ask_pickT]; exact hK
theorem a_or4F (h : c = false → ∀ K' : Value → Prop, K' (.bool d) → Ask R1 fun x => Ask (R2 x) fun y => AskF X f args fun z => Ask (R3 y z) K') (hK : K (.bool (c || d))) :
    AskG [(.bool c, false)] R1 fun x => AskG [(.bool c, false)] (R2 x) fun y => AskGF X [(.bool c, false)] f args fun z => AskG [(.bool c, false)] (R3 y z) fun q => Ask (rPick (.bool c) (.bool true) q) K := by
  cases c
  · have h0 := h rfl (fun v => v = .bool d) rfl
    refine a_G_on condsV1 ⟨h0.1, fun x hx => ?_⟩
    have h1 := h0.2 x hx
    refine a_G_on condsV1 ⟨h1.1, fun y hy => ?_⟩
    have h2 := h1.2 y hy
    refine a_GF_on condsV1 ⟨h2.1, fun z hz => ?_⟩
    have h3 := h2.2 z hz
    refine a_G_on condsV1 ⟨h3.1, fun q hq => ?_⟩
    rw [h3.2 q hq]
    show Ask (rPick (.bool false) (.bool true) (.bool d)) K
    rw [ask_pickF]; exact hK
  · iterate 2 refine a_G_off (condsV1_not (by decide)) fun _ => ?_
    refine a_GF_off (condsV1_not (by decide)) fun _ => ?_
    refine a_G_off (condsV1_not (by decide)) fun _ => ?_
    rw [ask_pickT]; exact hK
theorem ask_neqI {P : Program} {t : TypeId} {cx cy : Bool} {a b : Int} : Ask (rBin P .neq t cx cy (.int .i64 a) (.int .i64 b)) K = K (.bool (a != b)) := ask_neq
end
/-- Params as they come, any. -/
def cPi : Cod (Int × Int) := ⟨fun _ v p => v = Pv p.1 p.2, fun _ _ a b h k => by
  obtain ⟨h1, h2⟩ := Pv_inj (h.symm.trans k)
  exact Prod.ext h1 h2⟩
/-- Are the lists long enough? -/
def enB (b c : Int) (g h : Nat) : Bool := decide (sizeI b c ≤ (g : Int)) && decide (sizeI b c ≤ (h : Int))
/-- Is some value out of its range? -/
def badV (b : Int) (l : List (Nat × Nat)) : Bool := l.any fun o => decide (b < 64) && decide (2 ^ b.toNat ≤ o.1)
/-- The error that is seen first; 0: none. -/
def fitsE (b c : Int) (g h s r : Nat) (l : List (Nat × Nat)) : Nat :=
  if okPar b c = false then 130 else if (!enB b c g h || ((l.length : Int) != c) || ((s : Int) != sizeI b c) || ((r : Int) != sizeI b c)) = true then 2 else if badV b l = true then 131 else 0
/-! ### the document's -/
def Ten' : Table := T0.add 23 cSize
theorem keepTen' : AllKeep Tryz.prog GT Ten' := keepT0.add keepsSize
theorem badV_take {b : Int} {l : List (Nat × Nat)} {i : Nat} (hi : i < l.length) : badV b (l.take (i + 1)) = (badV b (l.take i) || (decide (b < 64) && decide (2 ^ b.toNat ≤ vAt l i))) := by
  have e : l.take (i + 1) = l.take i ++ [l[i]] := List.take_succ_eq_append_getElem hi
  unfold badV
  rw [e, List.any_append, vAt, getD_O hi]
  simp
theorem badV_some {b : Int} {l : List (Nat × Nat)} {i : Nat} (hi : i < l.length) (h : (decide (b < 64) && decide (2 ^ b.toNat ≤ vAt l i)) = true) : badV b l = true := by
  unfold badV
  rw [List.any_eq_true]
  exact ⟨l[i], List.getElem_mem hi, by rw [vAt, getD_O hi] at h; exact h⟩
end Go.Vc
