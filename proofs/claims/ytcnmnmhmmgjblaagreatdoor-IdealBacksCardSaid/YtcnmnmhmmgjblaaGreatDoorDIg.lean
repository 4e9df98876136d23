/-
  What the document's prover says (veilref13.Whole), over the scalars.
-/
import Derived.Test.YtcnmnmhmmgjblaaGreatDoorDIf
namespace Go.Vc
open Go Go.Proofs Go.RowKit
/-! ### lists by their places -/
def mapN {α : Type} (f : Nat → α) (n : Nat) : List α := (List.range n).map f
theorem mapN_len {α : Type} (f : Nat → α) (n : Nat) : (mapN f n).length = n := by simp [mapN]
theorem mapN_succ {α : Type} (f : Nat → α) (n : Nat) : mapN f (n + 1) = mapN f n ++ [f n] := by simp [mapN, List.range_succ]
theorem mapN_get {α : Type} (f : Nat → α) {n i : Nat} (d : α) (h : i < n) : (mapN f n).getD i d = f i := by
  rw [List.getD_eq_getElem?_getD, List.getElem?_eq_getElem (by rw [mapN_len]; exact h)]
  simp [mapN]
theorem mapN_congr {α : Type} {f g : Nat → α} {n : Nat} (h : ∀ i, i < n → f i = g i) : mapN f n = mapN g n := by
  unfold mapN
  exact List.map_congr_left fun i hi => h i (by simpa using hi)
theorem innF_mapN (f g : Nat → F) (n : Nat) : innF (mapN f n) (mapN g n) = sumF' (fun i => f i * g i) n := by
  unfold innF
  rw [mapN_len]
  exact sumF'_congr n fun i hi => by rw [mapN_get f 0 hi, mapN_get g 0 hi]
/-! ### what is made up, what is said -/
/-- A prover's tape: Alpha, Rho, Tau1, Tau2, SL, SR. -/
abbrev TpF : Type := F × F × F × F × List F × List F
def tpL (t : TpF) (l r : Value) : List Value := encF t.1 ++ encF t.2.1 ++ encF t.2.2.1 ++ encF t.2.2.2.1 ++ [l, r]
theorem tpL_len (t : TpF) (l r : Value) : (tpL t l r).length = 18 := rfl
theorem tpL_one {t : TpF} {l r : Value} (hl : l.oneCell' = true) (hr : r.oneCell' = true) : (tpL t l r).all (·.oneCell') = true := by
  simp only [tpL, List.all_append, one_encF, List.all_cons, List.all_nil, hl, hr, Bool.and_true]
def cTpF : Cod TpF := ⟨fun w v p => ∃ l r, v = .agg (tpL p l r).toArray ∧ cLF.rd w l p.2.2.2.2.1 ∧ cLF.rd w r p.2.2.2.2.2, fun w v ⟨a, b, c, d, G, H⟩ ⟨a', b', c', d', G', H'⟩ ⟨g, h, e, hg, hh⟩ ⟨g', h', e', hg', hh'⟩ => by
  dsimp only at hg hh hg' hh'
  rw [e] at e'
  simp only [Value.agg.injEq] at e'
  have e' := congrArg Array.toList e'
  simp only [tpL, List.append_assoc] at e'
  obtain ⟨e1, e'⟩ := List.append_inj e' rfl
  obtain ⟨e2, e'⟩ := List.append_inj e' rfl
  obtain ⟨e3, e'⟩ := List.append_inj e' rfl
  obtain ⟨e4, e'⟩ := List.append_inj e' rfl
  simp only [List.cons.injEq, and_true] at e'
  obtain ⟨rfl, rfl⟩ := e'
  rw [encF_inj _ _ e1, encF_inj _ _ e2, encF_inj _ _ e3, encF_inj _ _ e4, cLF.inj _ _ _ _ hg hg', cLF.inj _ _ _ _ hh hh']⟩
/-- A scalar that is least. -/
def cSF : Cod F := ⟨fun _ v e => v = S e.val, fun _ _ a b h k => val_inj (S_inj (val_lt a) (val_lt b) (h.symm.trans k))⟩
/-- What the document's prover is asked: set, bits, values, openings, tape, y, z, x. -/
structure Wh where
  p : SetF
  m : Nat
  n : Nat
  vs : List (Nat × Nat)
  t : TpF
  y : F
  z : F
  x : F
namespace Wh
variable (d : Wh)
def N : Nat := d.m * d.n
def bit (i : Nat) : F := bitF d.vs d.m i
def wt (i : Nat) : F := fp d.z (2 + i / d.m) * fp (rF 2) (i % d.m)
def sl (i : Nat) : F := d.t.2.2.2.2.1.getD i 0
def sr (i : Nat) : F := d.t.2.2.2.2.2.getD i 0
def l0 (i : Nat) : F := d.bit i - d.z
def r0 (i : Nat) : F := fp d.y i * (d.bit i - 1 + d.z) + d.wt i
def r1 (i : Nat) : F := fp d.y i * d.sr i
def l (i : Nat) : F := d.l0 i + d.sl i * d.x
def r (i : Nat) : F := d.r0 i + d.r1 i * d.x
def com (j : Nat) : F := d.p.1 * rF (vAt d.vs j) + d.p.2.1 * rF (bAt d.vs j)
def blinds (j : Nat) : F := sumF' (fun j => fp d.z (2 + j) * rF (bAt d.vs j)) j
def vec (a : F) (l r : List F) : F := d.p.2.1 * a + sumF' (vecF d.p.2.2.2.1 d.p.2.2.2.2 l r) l.length
def A : F := d.vec d.t.1 (mapN d.bit d.N) (mapN (fun i => d.bit i - 1) d.N)
def Sg : F := d.vec d.t.2.1 d.t.2.2.2.2.1 d.t.2.2.2.2.2
def t1 : F := sumF' (fun i => d.l0 i * d.r1 i) d.N + sumF' (fun i => d.sl i * d.r0 i) d.N
def t2 : F := sumF' (fun i => d.sl i * d.r1 i) d.N
def T1 : F := d.p.1 * d.t1 + d.p.2.1 * d.t.2.2.1
def T2 : F := d.p.1 * d.t2 + d.p.2.1 * d.t.2.2.2.1
def taux : F := d.t.2.2.1 * d.x + d.t.2.2.2.1 * d.x * d.x + d.blinds d.n
def mu : F := d.t.1 + d.t.2.1 * d.x
def that : F := sumF' (fun i => d.l i * d.r i) d.N
end Wh
def viewL (A S T1 T2 y z x taux mu that : F) (l r : Value) : List Value := encEF A ++ encEF S ++ encEF T1 ++ encEF T2 ++ encF y ++ encF z ++ encF x ++ encF taux ++ encF mu ++ encF that ++ [l, r]
def cWh : Cods Wh := ⟨fun w l d => (Cods.cons cRSetF (Cods.cons cPn (Cods.cons cLO (Cods.cons cTpF (Cods.cons cSF (Cods.cons cSF (Cods.cons cSF Cods.nil))))))).rd w l (d.p, (d.m, d.n), d.vs, d.t, d.y, d.z, d.x, ()), fun w l a b h k => by
  have := Cods.inj _ _ _ _ _ h k
  simp only [Prod.mk.injEq, and_true] at this
  obtain ⟨h1, ⟨h2, h3⟩, h4, h5, h6, h7, h8⟩ := this
  obtain ⟨⟩ := a; obtain ⟨⟩ := b
  simp only at h1 h2 h3 h4 h5 h6 h7 h8
  subst h1 h2 h3 h4 h5 h6 h7 h8
  rfl⟩
structure Wh.Ok (d : Wh) : Prop where
  m0 : 0 < d.m
  m1 : d.m ≤ 64
  n0 : 0 < d.n
  n1 : d.n ≤ 16
  vs : d.vs.length = d.n
  G : d.N ≤ d.p.2.2.2.1.length
  H : d.N ≤ d.p.2.2.2.2.length
  sl : d.t.2.2.2.2.1.length = d.N
  sr : d.t.2.2.2.2.2.length = d.N
/-- The view, told. -/
def viewIs (w : World) (v : Value) (A S T1 T2 y z x taux mu that : F) (l r : List F) : Prop := ∃ lv rv, v = .agg (viewL A S T1 T2 y z x taux mu that lv rv).toArray ∧ cLF.rd w lv l ∧ cLF.rd w rv r
def cRWh : Contract := fnW cWh (fun d _ => d.Ok) (fun d _ v w' => ∃ vv q, v = .tuple #[vv, q] ∧ cLEF.rd w' vv (mapN d.com d.n) ∧ viewIs w' q d.A d.Sg d.T1 d.T2 d.y d.z d.x d.taux d.mu d.that (mapN d.l d.N) (mapN d.r d.N))
theorem MRows.stpD {α : Type} {U w w' : World} {e s : Nat} {enc : α → List Value} {nb : List Nat} {N : Nat} {V : Nat → Value} {l : Nat → List α} {ex : List Nat} (h : MRows U w e s enc nb N V l) (hs : Stp ex w w') (hd : ∀ j, j < N → ∀ g, (V j).ownBlock = some g → g ∉ ex) (hU : ∀ b ∈ ex, U.heap.size ≤ b) : MRows U w' e s enc nb N V l :=
  ⟨(h.low.trans hs).drop (by simpa using hU), fun j hj => own_stp (h.row j hj) hs (hd j hj), h.ap, h.off⟩
theorem own_diffI {w : World} {b1 b2 s1 s2 n1 n2 : Nat} {e1 e2 : TypeId} {v1 v2 : Value} {x1 x2 : List Value} (h1 : w.ownsRow b1 e1 s1 v1 n1 x1) (h2 : w.ownsRow b2 e2 s2 v2 n2 x2) (hne : e1 ≠ e2) : ∀ g, v1.ownBlock = some g → g ∉ v2.ownBlock.toList := by
  intro g hg hm
  rcases h1.2 with ⟨rfl, _⟩ | ⟨g1, cap1, cur1, rfl, _, hg1, _⟩
  · cases hg
  rcases h2.2 with ⟨rfl, _⟩ | ⟨g2, cap2, cur2, rfl, _, hg2, _⟩
  · simp [Value.ownBlock] at hm
  · simp [Value.ownBlock] at hm hg
    subst hm hg
    rw [hg1] at hg2
    simp only [Option.some.injEq, Obj.cells.injEq] at hg2
    exact hne hg2.2.1
/-- Cells in the middle of an aggregate overwritten. -/
theorem a_upd3 {K : Value → Prop} {c : Array Value} {pos m : Nat} {x : Value} (l1 l2 l3 ds : List Value) (hc : c.toList = l1 ++ l2 ++ l3) (hx : x.cells.toList = ds) (h1 : l1.length = pos) (h2 : l2.length = m) (h3 : ds.length = m) (ho : ds.all (·.oneCell') = true) (hK : K (.agg (l1 ++ ds ++ l3).toArray)) : Ask (rUpd c pos m x) K := by
  have e : Ask (rUpd c pos m x) K = K (.agg (l1 ++ ds ++ l3).toArray) := ask_eq fun v => by
    unfold rUpd
    have es : splice c pos x.cells.toList = (l1 ++ ds ++ l3).toArray := by
      unfold splice
      rw [hx, hc, h3, ← h1, ← h2]
      congr 2
      · rw [List.append_assoc, List.take_left' rfl]
      · rw [← List.length_append, List.drop_left' rfl]
    have hsz : pos + m ≤ c.size := by
      have := congrArg List.length hc
      simp at this; omega
    have hxs : x.cells.size = m := by rw [← h3, ← hx]; simp
    have hxo : x.cells.all (·.oneCell') = true := by
      rw [← hx] at ho
      simpa using ho
    rw [es]
    exact ⟨fun h => h.2.2.2, fun h => ⟨hsz, hxs, hxo, h⟩⟩
  rw [e]; exact hK
/-- The loop's eight lists. -/
def Wh.fam (d : Wh) (j : Nat) : Nat → F := match j with
  | 0 => d.bit | 1 => fun i => d.bit i - 1 | 2 => d.l0 | 3 => d.sl | 4 => d.r0 | 5 => d.r1 | 6 => d.l | _ => d.r
theorem all8I {p : Nat → Prop} (h0 : p 0) (h1 : p 1) (h2 : p 2) (h3 : p 3) (h4 : p 4) (h5 : p 5) (h6 : p 6) (h7 : p 7) : ∀ j, j < 8 → p j := fun j hj => by
  match j, hj with
  | 0, _ => exact h0
  | 1, _ => exact h1
  | 2, _ => exact h2
  | 3, _ => exact h3
  | 4, _ => exact h4
  | 5, _ => exact h5
  | 6, _ => exact h6
  | 7, _ => exact h7
def Twh : Table := ((((((((((((T0.add 23 cSize).add 57 cRInt).add 58 cRSub).add 59 cqMul).add 106 cqRAdd).add 105 cRpw).add 107 cRwt).add 108 cRPo).add 104 cRBit).add 110 cRInn).add 109 cRCm).add 111 cRVe)
theorem keepTwh : AllKeep Tryz.prog GT Twh := ((((((((((((keepT0.add keepsSize).add keepsRInt).add keepsRSub).add keepsqRMul).add keepsqRAdd).add keepsRpw).add keepsRwt).add keepsRPo).add keepsRBit).add keepsRInn).add keepsRCm).add keepsRVe)
section
variable {X : Ctx} {K : Value → Prop}
theorem w_Sub (hS : X.S = Twh.spec) {a b : F} (hK : K (S (a - b).val)) : AskF X 58 [S a.val, S b.val] K := call_PE hS (T := Twh) (f := 58) rfl (a.val, b.val) ⟨a.isLt, b.isLt⟩ (by dsimp only; rw [rF_val, rF_val]; exact hK)
theorem w_Add (hS : X.S = Twh.spec) {a b : F} (hK : K (S (a + b).val)) : AskF X 106 [S a.val, S b.val] K := call_PE hS (T := Twh) (f := 106) rfl (a.val, b.val) ⟨a.isLt, b.isLt⟩ (by dsimp only; rw [rF_val, rF_val]; exact hK)
theorem w_Mul (hS : X.S = Twh.spec) {a b : F} (hK : K (S (a * b).val)) : AskF X 59 [S a.val, S b.val] K := call_PE hS (T := Twh) (f := 59) rfl (a.val, b.val) ⟨val_lt a, val_lt b⟩ (by dsimp only; rw [rF_val, rF_val]; exact hK)
theorem w_MulN (hS : X.S = Twh.spec) {a : F} {b : Nat} (hb : b < W256) (hK : K (S (a * rF b).val)) : AskF X 59 [S a.val, S b] K := call_PE hS (T := Twh) (f := 59) rfl (a.val, b) ⟨val_lt a, hb⟩ (by dsimp only; rw [rF_val]; exact hK)
theorem w_Pow (hS : X.S = Twh.spec) {a : F} {i : Nat} (hi : i < 2 ^ 63) (hK : K (S (fp a i).val)) : AskF X 105 [S a.val, J i] K := call_PE hS (T := Twh) (f := 105) rfl (a.val, i) ⟨val_lt a, hi⟩ (by dsimp only; rw [rF_val]; exact hK)
theorem w_One (hS : X.S = Twh.spec) (hK : K (S (1 : F).val)) : AskF X 57 [U 1] K := call_PE hS (T := Twh) (f := 57) rfl 1 (by decide) hK
end
def ann55 : Ann := ⟨[(6, ([18, 19, 20, 21, 22, 23, 24, 25, 26], [])), (22, ([30, 32], [8]))], [23, 57, 58, 59, 106, 105, 107, 108], 70, [(104, false), (110, false), (109, false), (111, false)], [11, 12, 13, 17, 27, 28, 29, 31, 33, 34], none, [], []⟩
def kb55_0 (b0 b1 b2 b3 b4 b5 b6 b7 : Nat) (x9 x1 x2 x10 x11 x12 x13 x17 : Value) : List KB := [⟨b0, true, 65, (aggArr x9)⟩, ⟨b1, true, 45, #[x1, x2]⟩, ⟨b2, true, 52, (aggArr x10)⟩, ⟨b3, true, 49, (aggArr x11)⟩, ⟨b4, true, 49, (aggArr x12)⟩, ⟨b5, true, 49, (aggArr x13)⟩, ⟨b6, true, 122, #[(J 0), (J 0), (J 0), (J 0), (J 0), (J 0), (J 0), (J 0), (J 0), (J 0), (J 0), (J 0), (J 0), (J 0), (J 0), (J 0), (J 0), (J 0), (J 0), (J 0), (J 0), (U 0), (U 0), (U 0), (U 0), (.slice none 0 0), (J 0), (J 0), (J 0), (J 0), (J 0), (J 0), (J 0), (J 0), (J 0), (J 0), (J 0), (J 0), (J 0), (J 0), (J 0), (J 0), (J 0), (J 0), (J 0), (J 0), (J 0), (U 0), (U 0), (U 0), (U 0), (.slice none 0 0), (J 0), (J 0), (J 0), (J 0), (J 0), (J 0), (J 0), (J 0), (J 0), (J 0), (J 0), (J 0), (J 0), (J 0), (J 0), (J 0), (J 0), (J 0), (J 0), (J 0), (J 0), (U 0), (U 0), (U 0), (U 0), (.slice none 0 0), (J 0), (J 0), (J 0), (J 0), (J 0), (J 0), (J 0), (J 0), (J 0), (J 0), (J 0), (J 0), (J 0), (J 0), (J 0), (J 0), (J 0), (J 0), (J 0), (J 0), (J 0), (U 0), (U 0), (U 0), (U 0), (.slice none 0 0), (U 0), (U 0), (U 0), (U 0), (U 0), (U 0), (U 0), (U 0), (U 0), (U 0), (U 0), (U 0), (U 0), (U 0), (U 0), (U 0), (U 0), (U 0), (U 0), (U 0), (U 0), (U 0), (U 0), (U 0), (.slice none 0 0), (.slice none 0 0)]⟩, ⟨b7, true, 49, (aggArr x17)⟩]
def kb55_1 (b0 b1 b2 b3 b4 b5 b6 b7 b8 b9 : Nat) (x9 x1 x2 x10 x11 x12 x13 x17 x31 x34 : Value) : List KB := [⟨b0, true, 65, (aggArr x9)⟩, ⟨b1, true, 45, #[x1, x2]⟩, ⟨b2, true, 52, (aggArr x10)⟩, ⟨b3, true, 49, (aggArr x11)⟩, ⟨b4, true, 49, (aggArr x12)⟩, ⟨b5, true, 49, (aggArr x13)⟩, ⟨b6, true, 122, #[(J 0), (J 0), (J 0), (J 0), (J 0), (J 0), (J 0), (J 0), (J 0), (J 0), (J 0), (J 0), (J 0), (J 0), (J 0), (J 0), (J 0), (J 0), (J 0), (J 0), (J 0), (U 0), (U 0), (U 0), (U 0), (.slice none 0 0), (J 0), (J 0), (J 0), (J 0), (J 0), (J 0), (J 0), (J 0), (J 0), (J 0), (J 0), (J 0), (J 0), (J 0), (J 0), (J 0), (J 0), (J 0), (J 0), (J 0), (J 0), (U 0), (U 0), (U 0), (U 0), (.slice none 0 0), (J 0), (J 0), (J 0), (J 0), (J 0), (J 0), (J 0), (J 0), (J 0), (J 0), (J 0), (J 0), (J 0), (J 0), (J 0), (J 0), (J 0), (J 0), (J 0), (J 0), (J 0), (U 0), (U 0), (U 0), (U 0), (.slice none 0 0), (J 0), (J 0), (J 0), (J 0), (J 0), (J 0), (J 0), (J 0), (J 0), (J 0), (J 0), (J 0), (J 0), (J 0), (J 0), (J 0), (J 0), (J 0), (J 0), (J 0), (J 0), (U 0), (U 0), (U 0), (U 0), (.slice none 0 0), (U 0), (U 0), (U 0), (U 0), (U 0), (U 0), (U 0), (U 0), (U 0), (U 0), (U 0), (U 0), (U 0), (U 0), (U 0), (U 0), (U 0), (U 0), (U 0), (U 0), (U 0), (U 0), (U 0), (U 0), (.slice none 0 0), (.slice none 0 0)]⟩, ⟨b7, true, 49, (aggArr x17)⟩, ⟨b8, true, 49, (aggArr x31)⟩, ⟨b9, true, 49, (aggArr x34)⟩]
def kb55_2 (b0 b1 b2 b3 b4 b5 b6 b7 b8 b9 b10 : Nat) (x9 x1 x2 x10 x11 x12 x13 x17 x31 x34 x41 : Value) : List KB := [⟨b0, true, 65, (aggArr x9)⟩, ⟨b1, true, 45, #[x1, x2]⟩, ⟨b2, true, 52, (aggArr x10)⟩, ⟨b3, true, 49, (aggArr x11)⟩, ⟨b4, true, 49, (aggArr x12)⟩, ⟨b5, true, 49, (aggArr x13)⟩, ⟨b6, true, 122, #[(J 0), (J 0), (J 0), (J 0), (J 0), (J 0), (J 0), (J 0), (J 0), (J 0), (J 0), (J 0), (J 0), (J 0), (J 0), (J 0), (J 0), (J 0), (J 0), (J 0), (J 0), (U 0), (U 0), (U 0), (U 0), (.slice none 0 0), (J 0), (J 0), (J 0), (J 0), (J 0), (J 0), (J 0), (J 0), (J 0), (J 0), (J 0), (J 0), (J 0), (J 0), (J 0), (J 0), (J 0), (J 0), (J 0), (J 0), (J 0), (U 0), (U 0), (U 0), (U 0), (.slice none 0 0), (J 0), (J 0), (J 0), (J 0), (J 0), (J 0), (J 0), (J 0), (J 0), (J 0), (J 0), (J 0), (J 0), (J 0), (J 0), (J 0), (J 0), (J 0), (J 0), (J 0), (J 0), (U 0), (U 0), (U 0), (U 0), (.slice none 0 0), (J 0), (J 0), (J 0), (J 0), (J 0), (J 0), (J 0), (J 0), (J 0), (J 0), (J 0), (J 0), (J 0), (J 0), (J 0), (J 0), (J 0), (J 0), (J 0), (J 0), (J 0), (U 0), (U 0), (U 0), (U 0), (.slice none 0 0), (U 0), (U 0), (U 0), (U 0), (U 0), (U 0), (U 0), (U 0), (U 0), (U 0), (U 0), (U 0), (U 0), (U 0), (U 0), (U 0), (U 0), (U 0), (U 0), (U 0), (U 0), (U 0), (U 0), (U 0), (.slice none 0 0), (.slice none 0 0)]⟩, ⟨b7, true, 49, (aggArr x17)⟩, ⟨b8, true, 49, (aggArr x31)⟩, ⟨b9, true, 49, (aggArr x34)⟩, ⟨b10, true, 49, (aggArr x41)⟩]
def kb55_3 (b0 b1 b2 b3 b4 b5 b6 b7 b8 : Nat) (x9 x1 x2 x10 x11 x12 x13 x17 x30 : Value) : List KB := [⟨b0, true, 65, (aggArr x9)⟩, ⟨b1, true, 45, #[x1, x2]⟩, ⟨b2, true, 52, (aggArr x10)⟩, ⟨b3, true, 49, (aggArr x11)⟩, ⟨b4, true, 49, (aggArr x12)⟩, ⟨b5, true, 49, (aggArr x13)⟩, ⟨b6, true, 122, #[(J 0), (J 0), (J 0), (J 0), (J 0), (J 0), (J 0), (J 0), (J 0), (J 0), (J 0), (J 0), (J 0), (J 0), (J 0), (J 0), (J 0), (J 0), (J 0), (J 0), (J 0), (U 0), (U 0), (U 0), (U 0), (.slice none 0 0), (J 0), (J 0), (J 0), (J 0), (J 0), (J 0), (J 0), (J 0), (J 0), (J 0), (J 0), (J 0), (J 0), (J 0), (J 0), (J 0), (J 0), (J 0), (J 0), (J 0), (J 0), (U 0), (U 0), (U 0), (U 0), (.slice none 0 0), (J 0), (J 0), (J 0), (J 0), (J 0), (J 0), (J 0), (J 0), (J 0), (J 0), (J 0), (J 0), (J 0), (J 0), (J 0), (J 0), (J 0), (J 0), (J 0), (J 0), (J 0), (U 0), (U 0), (U 0), (U 0), (.slice none 0 0), (J 0), (J 0), (J 0), (J 0), (J 0), (J 0), (J 0), (J 0), (J 0), (J 0), (J 0), (J 0), (J 0), (J 0), (J 0), (J 0), (J 0), (J 0), (J 0), (J 0), (J 0), (U 0), (U 0), (U 0), (U 0), (.slice none 0 0), (U 0), (U 0), (U 0), (U 0), (U 0), (U 0), (U 0), (U 0), (U 0), (U 0), (U 0), (U 0), (U 0), (U 0), (U 0), (U 0), (U 0), (U 0), (U 0), (U 0), (U 0), (U 0), (U 0), (U 0), (.slice none 0 0), (.slice none 0 0)]⟩, ⟨b7, true, 49, (aggArr x17)⟩, ⟨b8, true, 49, (aggArr x30)⟩]
def kb55_4 (b0 b1 b2 b3 b4 b5 b6 b7 b8 : Nat) (x9 x1 x2 x10 x11 x12 x13 x17 x33 : Value) : List KB := [⟨b0, true, 65, (aggArr x9)⟩, ⟨b1, true, 45, #[x1, x2]⟩, ⟨b2, true, 52, (aggArr x10)⟩, ⟨b3, true, 49, (aggArr x11)⟩, ⟨b4, true, 49, (aggArr x12)⟩, ⟨b5, true, 49, (aggArr x13)⟩, ⟨b6, true, 122, #[(J 0), (J 0), (J 0), (J 0), (J 0), (J 0), (J 0), (J 0), (J 0), (J 0), (J 0), (J 0), (J 0), (J 0), (J 0), (J 0), (J 0), (J 0), (J 0), (J 0), (J 0), (U 0), (U 0), (U 0), (U 0), (.slice none 0 0), (J 0), (J 0), (J 0), (J 0), (J 0), (J 0), (J 0), (J 0), (J 0), (J 0), (J 0), (J 0), (J 0), (J 0), (J 0), (J 0), (J 0), (J 0), (J 0), (J 0), (J 0), (U 0), (U 0), (U 0), (U 0), (.slice none 0 0), (J 0), (J 0), (J 0), (J 0), (J 0), (J 0), (J 0), (J 0), (J 0), (J 0), (J 0), (J 0), (J 0), (J 0), (J 0), (J 0), (J 0), (J 0), (J 0), (J 0), (J 0), (U 0), (U 0), (U 0), (U 0), (.slice none 0 0), (J 0), (J 0), (J 0), (J 0), (J 0), (J 0), (J 0), (J 0), (J 0), (J 0), (J 0), (J 0), (J 0), (J 0), (J 0), (J 0), (J 0), (J 0), (J 0), (J 0), (J 0), (U 0), (U 0), (U 0), (U 0), (.slice none 0 0), (U 0), (U 0), (U 0), (U 0), (U 0), (U 0), (U 0), (U 0), (U 0), (U 0), (U 0), (U 0), (U 0), (U 0), (U 0), (U 0), (U 0), (U 0), (U 0), (U 0), (U 0), (U 0), (U 0), (U 0), (.slice none 0 0), (.slice none 0 0)]⟩, ⟨b7, true, 49, (aggArr x17)⟩, ⟨b8, true, 49, (aggArr x33)⟩]
def kb55_5 (b0 b1 b2 b3 b4 b5 b6 b7 b8 b9 : Nat) (x9 x1 x2 x10 x11 x12 x13 x17 x33 x40 : Value) : List KB := [⟨b0, true, 65, (aggArr x9)⟩, ⟨b1, true, 45, #[x1, x2]⟩, ⟨b2, true, 52, (aggArr x10)⟩, ⟨b3, true, 49, (aggArr x11)⟩, ⟨b4, true, 49, (aggArr x12)⟩, ⟨b5, true, 49, (aggArr x13)⟩, ⟨b6, true, 122, #[(J 0), (J 0), (J 0), (J 0), (J 0), (J 0), (J 0), (J 0), (J 0), (J 0), (J 0), (J 0), (J 0), (J 0), (J 0), (J 0), (J 0), (J 0), (J 0), (J 0), (J 0), (U 0), (U 0), (U 0), (U 0), (.slice none 0 0), (J 0), (J 0), (J 0), (J 0), (J 0), (J 0), (J 0), (J 0), (J 0), (J 0), (J 0), (J 0), (J 0), (J 0), (J 0), (J 0), (J 0), (J 0), (J 0), (J 0), (J 0), (U 0), (U 0), (U 0), (U 0), (.slice none 0 0), (J 0), (J 0), (J 0), (J 0), (J 0), (J 0), (J 0), (J 0), (J 0), (J 0), (J 0), (J 0), (J 0), (J 0), (J 0), (J 0), (J 0), (J 0), (J 0), (J 0), (J 0), (U 0), (U 0), (U 0), (U 0), (.slice none 0 0), (J 0), (J 0), (J 0), (J 0), (J 0), (J 0), (J 0), (J 0), (J 0), (J 0), (J 0), (J 0), (J 0), (J 0), (J 0), (J 0), (J 0), (J 0), (J 0), (J 0), (J 0), (U 0), (U 0), (U 0), (U 0), (.slice none 0 0), (U 0), (U 0), (U 0), (U 0), (U 0), (U 0), (U 0), (U 0), (U 0), (U 0), (U 0), (U 0), (U 0), (U 0), (U 0), (U 0), (U 0), (U 0), (U 0), (U 0), (U 0), (U 0), (U 0), (U 0), (.slice none 0 0), (.slice none 0 0)]⟩, ⟨b7, true, 49, (aggArr x17)⟩, ⟨b8, true, 49, (aggArr x33)⟩, ⟨b9, true, 49, (aggArr x40)⟩]
def kb55_6 (b0 b1 b2 b3 b4 b5 b6 b7 b8 b9 b10 : Nat) (x9 x1 x2 x10 x11 x12 x13 x17 x33 x40 x43 : Value) : List KB := [⟨b0, true, 65, (aggArr x9)⟩, ⟨b1, true, 45, #[x1, x2]⟩, ⟨b2, true, 52, (aggArr x10)⟩, ⟨b3, true, 49, (aggArr x11)⟩, ⟨b4, true, 49, (aggArr x12)⟩, ⟨b5, true, 49, (aggArr x13)⟩, ⟨b6, true, 122, #[(J 0), (J 0), (J 0), (J 0), (J 0), (J 0), (J 0), (J 0), (J 0), (J 0), (J 0), (J 0), (J 0), (J 0), (J 0), (J 0), (J 0), (J 0), (J 0), (J 0), (J 0), (U 0), (U 0), (U 0), (U 0), (.slice none 0 0), (J 0), (J 0), (J 0), (J 0), (J 0), (J 0), (J 0), (J 0), (J 0), (J 0), (J 0), (J 0), (J 0), (J 0), (J 0), (J 0), (J 0), (J 0), (J 0), (J 0), (J 0), (U 0), (U 0), (U 0), (U 0), (.slice none 0 0), (J 0), (J 0), (J 0), (J 0), (J 0), (J 0), (J 0), (J 0), (J 0), (J 0), (J 0), (J 0), (J 0), (J 0), (J 0), (J 0), (J 0), (J 0), (J 0), (J 0), (J 0), (U 0), (U 0), (U 0), (U 0), (.slice none 0 0), (J 0), (J 0), (J 0), (J 0), (J 0), (J 0), (J 0), (J 0), (J 0), (J 0), (J 0), (J 0), (J 0), (J 0), (J 0), (J 0), (J 0), (J 0), (J 0), (J 0), (J 0), (U 0), (U 0), (U 0), (U 0), (.slice none 0 0), (U 0), (U 0), (U 0), (U 0), (U 0), (U 0), (U 0), (U 0), (U 0), (U 0), (U 0), (U 0), (U 0), (U 0), (U 0), (U 0), (U 0), (U 0), (U 0), (U 0), (U 0), (U 0), (U 0), (U 0), (.slice none 0 0), (.slice none 0 0)]⟩, ⟨b7, true, 49, (aggArr x17)⟩, ⟨b8, true, 49, (aggArr x33)⟩, ⟨b9, true, 49, (aggArr x40)⟩, ⟨b10, true, 49, (aggArr x43)⟩]
def kb55_7 (b0 b1 b2 b3 b4 b5 b6 b7 b8 b9 b10 b11 : Nat) (x9 x1 x2 x10 x11 x12 x13 x17 x33 x40 x43 x67 x68 x69 x70 x71 x72 x73 x74 x75 x76 x77 x78 x79 x80 x81 x82 x83 x84 : Value) : List KB := [⟨b0, true, 65, (aggArr x9)⟩, ⟨b1, true, 45, #[x1, x2]⟩, ⟨b2, true, 52, (aggArr x10)⟩, ⟨b3, true, 49, (aggArr x11)⟩, ⟨b4, true, 49, (aggArr x12)⟩, ⟨b5, true, 49, (aggArr x13)⟩, ⟨b6, true, 122, #[(J 0), (J 0), (J 0), (J 0), (J 0), (J 0), (J 0), (J 0), (J 0), (J 0), (J 0), (J 0), (J 0), (J 0), (J 0), (J 0), (J 0), (J 0), (J 0), (J 0), (J 0), (U 0), (U 0), (U 0), (U 0), (.slice none 0 0), (J 0), (J 0), (J 0), (J 0), (J 0), (J 0), (J 0), (J 0), (J 0), (J 0), (J 0), (J 0), (J 0), (J 0), (J 0), (J 0), (J 0), (J 0), (J 0), (J 0), (J 0), (U 0), (U 0), (U 0), (U 0), (.slice none 0 0), (J 0), (J 0), (J 0), (J 0), (J 0), (J 0), (J 0), (J 0), (J 0), (J 0), (J 0), (J 0), (J 0), (J 0), (J 0), (J 0), (J 0), (J 0), (J 0), (J 0), (J 0), (U 0), (U 0), (U 0), (U 0), (.slice none 0 0), (J 0), (J 0), (J 0), (J 0), (J 0), (J 0), (J 0), (J 0), (J 0), (J 0), (J 0), (J 0), (J 0), (J 0), (J 0), (J 0), (J 0), (J 0), (J 0), (J 0), (J 0), (U 0), (U 0), (U 0), (U 0), (.slice none 0 0), (U 0), (U 0), (U 0), (U 0), (U 0), (U 0), (U 0), (U 0), (U 0), (U 0), (U 0), (U 0), (U 0), (U 0), (U 0), (U 0), (U 0), (U 0), (U 0), (U 0), (U 0), (U 0), (U 0), (U 0), (.slice none 0 0), (.slice none 0 0)]⟩, ⟨b7, true, 49, (aggArr x17)⟩, ⟨b8, true, 49, (aggArr x33)⟩, ⟨b9, true, 49, (aggArr x40)⟩, ⟨b10, true, 49, (aggArr x43)⟩, ⟨b11, true, 122, #[(J 0), (J 0), (J 0), (J 0), (J 0), (J 0), (J 0), (J 0), (J 0), (J 0), (J 0), (J 0), (J 0), (J 0), (J 0), (J 0), (J 0), (J 0), (J 0), (J 0), (J 0), (U 0), (U 0), (U 0), (U 0), (.slice none 0 0), (J 0), (J 0), (J 0), (J 0), (J 0), (J 0), (J 0), (J 0), (J 0), (J 0), (J 0), (J 0), (J 0), (J 0), (J 0), (J 0), (J 0), (J 0), (J 0), (J 0), (J 0), (U 0), (U 0), (U 0), (U 0), (.slice none 0 0), (J 0), (J 0), (J 0), (J 0), (J 0), (J 0), (J 0), (J 0), (J 0), (J 0), (J 0), (J 0), (J 0), (J 0), (J 0), (J 0), (J 0), (J 0), (J 0), (J 0), (J 0), (U 0), (U 0), (U 0), (U 0), (.slice none 0 0), (J 0), (J 0), (J 0), (J 0), (J 0), (J 0), (J 0), (J 0), (J 0), (J 0), (J 0), (J 0), (J 0), (J 0), (J 0), (J 0), (J 0), (J 0), (J 0), (J 0), (J 0), (U 0), (U 0), (U 0), (U 0), (.slice none 0 0), x67, x68, x69, x70, x71, x72, x73, x74, x75, x76, x77, x78, (U 0), (U 0), (U 0), (U 0), (U 0), (U 0), (U 0), (U 0), x79, x80, x81, x82, x83, x84]⟩]
def kb55_8 (b0 b1 b2 b3 b4 b5 b6 b7 b8 b9 b10 b11 : Nat) (x9 x1 x2 x10 x11 x12 x13 x17 x33 x40 x43 x87 : Value) : List KB := [⟨b0, true, 65, (aggArr x9)⟩, ⟨b1, true, 45, #[x1, x2]⟩, ⟨b2, true, 52, (aggArr x10)⟩, ⟨b3, true, 49, (aggArr x11)⟩, ⟨b4, true, 49, (aggArr x12)⟩, ⟨b5, true, 49, (aggArr x13)⟩, ⟨b6, true, 122, #[(J 0), (J 0), (J 0), (J 0), (J 0), (J 0), (J 0), (J 0), (J 0), (J 0), (J 0), (J 0), (J 0), (J 0), (J 0), (J 0), (J 0), (J 0), (J 0), (J 0), (J 0), (U 0), (U 0), (U 0), (U 0), (.slice none 0 0), (J 0), (J 0), (J 0), (J 0), (J 0), (J 0), (J 0), (J 0), (J 0), (J 0), (J 0), (J 0), (J 0), (J 0), (J 0), (J 0), (J 0), (J 0), (J 0), (J 0), (J 0), (U 0), (U 0), (U 0), (U 0), (.slice none 0 0), (J 0), (J 0), (J 0), (J 0), (J 0), (J 0), (J 0), (J 0), (J 0), (J 0), (J 0), (J 0), (J 0), (J 0), (J 0), (J 0), (J 0), (J 0), (J 0), (J 0), (J 0), (U 0), (U 0), (U 0), (U 0), (.slice none 0 0), (J 0), (J 0), (J 0), (J 0), (J 0), (J 0), (J 0), (J 0), (J 0), (J 0), (J 0), (J 0), (J 0), (J 0), (J 0), (J 0), (J 0), (J 0), (J 0), (J 0), (J 0), (U 0), (U 0), (U 0), (U 0), (.slice none 0 0), (U 0), (U 0), (U 0), (U 0), (U 0), (U 0), (U 0), (U 0), (U 0), (U 0), (U 0), (U 0), (U 0), (U 0), (U 0), (U 0), (U 0), (U 0), (U 0), (U 0), (U 0), (U 0), (U 0), (U 0), (.slice none 0 0), (.slice none 0 0)]⟩, ⟨b7, true, 49, (aggArr x17)⟩, ⟨b8, true, 49, (aggArr x33)⟩, ⟨b9, true, 49, (aggArr x40)⟩, ⟨b10, true, 49, (aggArr x43)⟩, ⟨b11, true, 122, (aggArr x87)⟩]
def kb55_9 (b0 b1 b2 b3 b4 b5 b6 b7 b8 b9 b10 b11 : Nat) (x9 x1 x2 x10 x11 x12 x13 x17 x33 x40 x43 x92 : Value) : List KB := [⟨b0, true, 65, (aggArr x9)⟩, ⟨b1, true, 45, #[x1, x2]⟩, ⟨b2, true, 52, (aggArr x10)⟩, ⟨b3, true, 49, (aggArr x11)⟩, ⟨b4, true, 49, (aggArr x12)⟩, ⟨b5, true, 49, (aggArr x13)⟩, ⟨b6, true, 122, #[(J 0), (J 0), (J 0), (J 0), (J 0), (J 0), (J 0), (J 0), (J 0), (J 0), (J 0), (J 0), (J 0), (J 0), (J 0), (J 0), (J 0), (J 0), (J 0), (J 0), (J 0), (U 0), (U 0), (U 0), (U 0), (.slice none 0 0), (J 0), (J 0), (J 0), (J 0), (J 0), (J 0), (J 0), (J 0), (J 0), (J 0), (J 0), (J 0), (J 0), (J 0), (J 0), (J 0), (J 0), (J 0), (J 0), (J 0), (J 0), (U 0), (U 0), (U 0), (U 0), (.slice none 0 0), (J 0), (J 0), (J 0), (J 0), (J 0), (J 0), (J 0), (J 0), (J 0), (J 0), (J 0), (J 0), (J 0), (J 0), (J 0), (J 0), (J 0), (J 0), (J 0), (J 0), (J 0), (U 0), (U 0), (U 0), (U 0), (.slice none 0 0), (J 0), (J 0), (J 0), (J 0), (J 0), (J 0), (J 0), (J 0), (J 0), (J 0), (J 0), (J 0), (J 0), (J 0), (J 0), (J 0), (J 0), (J 0), (J 0), (J 0), (J 0), (U 0), (U 0), (U 0), (U 0), (.slice none 0 0), (U 0), (U 0), (U 0), (U 0), (U 0), (U 0), (U 0), (U 0), (U 0), (U 0), (U 0), (U 0), (U 0), (U 0), (U 0), (U 0), (U 0), (U 0), (U 0), (U 0), (U 0), (U 0), (U 0), (U 0), (.slice none 0 0), (.slice none 0 0)]⟩, ⟨b7, true, 49, (aggArr x17)⟩, ⟨b8, true, 49, (aggArr x33)⟩, ⟨b9, true, 49, (aggArr x40)⟩, ⟨b10, true, 49, (aggArr x43)⟩, ⟨b11, true, 122, (aggArr x92)⟩]
def kb55_10 (b0 b1 b2 b3 b4 b5 b6 b7 b8 b9 b10 b11 : Nat) (x9 x1 x2 x10 x11 x12 x13 x17 x33 x40 x43 x95 : Value) : List KB := [⟨b0, true, 65, (aggArr x9)⟩, ⟨b1, true, 45, #[x1, x2]⟩, ⟨b2, true, 52, (aggArr x10)⟩, ⟨b3, true, 49, (aggArr x11)⟩, ⟨b4, true, 49, (aggArr x12)⟩, ⟨b5, true, 49, (aggArr x13)⟩, ⟨b6, true, 122, #[(J 0), (J 0), (J 0), (J 0), (J 0), (J 0), (J 0), (J 0), (J 0), (J 0), (J 0), (J 0), (J 0), (J 0), (J 0), (J 0), (J 0), (J 0), (J 0), (J 0), (J 0), (U 0), (U 0), (U 0), (U 0), (.slice none 0 0), (J 0), (J 0), (J 0), (J 0), (J 0), (J 0), (J 0), (J 0), (J 0), (J 0), (J 0), (J 0), (J 0), (J 0), (J 0), (J 0), (J 0), (J 0), (J 0), (J 0), (J 0), (U 0), (U 0), (U 0), (U 0), (.slice none 0 0), (J 0), (J 0), (J 0), (J 0), (J 0), (J 0), (J 0), (J 0), (J 0), (J 0), (J 0), (J 0), (J 0), (J 0), (J 0), (J 0), (J 0), (J 0), (J 0), (J 0), (J 0), (U 0), (U 0), (U 0), (U 0), (.slice none 0 0), (J 0), (J 0), (J 0), (J 0), (J 0), (J 0), (J 0), (J 0), (J 0), (J 0), (J 0), (J 0), (J 0), (J 0), (J 0), (J 0), (J 0), (J 0), (J 0), (J 0), (J 0), (U 0), (U 0), (U 0), (U 0), (.slice none 0 0), (U 0), (U 0), (U 0), (U 0), (U 0), (U 0), (U 0), (U 0), (U 0), (U 0), (U 0), (U 0), (U 0), (U 0), (U 0), (U 0), (U 0), (U 0), (U 0), (U 0), (U 0), (U 0), (U 0), (U 0), (.slice none 0 0), (.slice none 0 0)]⟩, ⟨b7, true, 49, (aggArr x17)⟩, ⟨b8, true, 49, (aggArr x33)⟩, ⟨b9, true, 49, (aggArr x40)⟩, ⟨b10, true, 49, (aggArr x43)⟩, ⟨b11, true, 122, (aggArr x95)⟩]
theorem vc55 (X : Ctx) (β : Nat → Nat) (x0 x1 x2 x3 x4 x5 x6 x7 : Value) : (run Tryz.prog ann55 55 [.x (.v 0), .l [.v 1, .v 2], .x (.v 3), .x (.v 4), .x (.v 5), .x (.v 6), .x (.v 7)] [] [] 9).den X (env0 [x0, x1, x2, x3, x4, x5, x6, x7] X.w0) 9 β 0 (fun _ _ _ => False) = (
 Ask (rAgg 81 x0) fun x9 =>
 AskNew X.w0 fun b0 =>
 AskNew X.w0 fun b1 =>
 Ask (rAgg 18 x4) fun x10 =>
 AskNew X.w0 fun b2 =>
 Ask (rAgg 4 x5) fun x11 =>
 AskNew X.w0 fun b3 =>
 Ask (rAgg 4 x6) fun x12 =>
 AskNew X.w0 fun b4 =>
 Ask (rAgg 4 x7) fun x13 =>
 AskNew X.w0 fun b5 =>
 AskNew X.w0 fun b6 =>
 AskF X 23 [(.agg #[x1, x2])] fun x14 =>
 AskF X 57 [(U 1)] fun x15 =>
 Ask (rAgg 4 (.agg #[(U 0), (U 0), (U 0), (U 0)])) fun _ =>
 AskNew X.w0 fun b7 =>
 Ask (rAgg 4 x15) fun x17 =>
 ∃ (I0 : List Value → World → Prop) (μ0 : List Value → World → Nat), (∀ w, KnownV X X.w0 [b7] (kb55_0 b0 b1 b2 b3 b4 b5 b6 b7 x9 x1 x2 x10 x11 x12 x13 x17) w → I0 [(.slice none 0 0), (.slice none 0 0), (.slice none 0 0), (.slice none 0 0), (.slice none 0 0), (.slice none 0 0), (.slice none 0 0), (.slice none 0 0), (J 0)] w) ∧ ∀ x18 x19 x20 x21 x22 x23 x24 x25 x26 w27, I0 [x18, x19, x20, x21, x22, x23, x24, x25, x26] w27 →
 Ask (rBin X.P .lss 3 false false x26 x14) fun x28 =>
 (∃ t, x28 = .bool t) ∧ (x28 = .bool true →
 AskW X w27 [] (kb55_0 b0 b1 b2 b3 b4 b5 b6 b7 x9 x1 x2 x10 x11 x12 x13 x17) false 104 [(.agg #[x1, x2]), x3, x26] fun x29 w29 =>
 Ask (rAgg 4 (.agg #[(U 0), (U 0), (U 0), (U 0)])) fun _ =>
 AskNew w29 fun b8 =>
 Ask (rAgg 4 x29) fun x31 =>
 AskF X 58 [x31, x17] fun x32 =>
 Ask (rAgg 4 (.agg #[(U 0), (U 0), (U 0), (U 0)])) fun _ =>
 AskNew w29 fun b9 =>
 Ask (rAgg 4 x32) fun x34 =>
 AskO X w29 [b9, b8] (kb55_1 b0 b1 b2 b3 b4 b5 b6 b7 b8 b9 x9 x1 x2 x10 x11 x12 x13 x17 x31 x34) false (Op.buildSlice 50 1 #[(0, Operand.tmp 52)]) 50 [(52, x31)] fun x35 w35 =>
 AskO X w35 [] (kb55_1 b0 b1 b2 b3 b4 b5 b6 b7 b8 b9 x9 x1 x2 x10 x11 x12 x13 x17 x31 x34) true (appOp (.tmp 51) (.tmp 53) 50) 50 [(51, x18), (53, x35)] fun x36 w36 =>
 AskO X w36 [] (kb55_1 b0 b1 b2 b3 b4 b5 b6 b7 b8 b9 x9 x1 x2 x10 x11 x12 x13 x17 x31 x34) false (Op.buildSlice 50 1 #[(0, Operand.tmp 56)]) 50 [(56, x34)] fun x37 w37 =>
 AskO X w37 [] (kb55_1 b0 b1 b2 b3 b4 b5 b6 b7 b8 b9 x9 x1 x2 x10 x11 x12 x13 x17 x31 x34) true (appOp (.tmp 55) (.tmp 57) 50) 50 [(55, x19), (57, x37)] fun x38 w38 =>
 AskF X 105 [x11, x26] fun x39 =>
 Ask (rAgg 4 (.agg #[(U 0), (U 0), (U 0), (U 0)])) fun _ =>
 AskNew w38 fun b10 =>
 Ask (rAgg 4 x39) fun x41 =>
 AskF X 58 [x31, x12] fun x42 =>
 AskO X w38 [b10] (kb55_2 b0 b1 b2 b3 b4 b5 b6 b7 b8 b9 b10 x9 x1 x2 x10 x11 x12 x13 x17 x31 x34 x41) false (Op.buildSlice 50 1 #[(0, Operand.tmp 65)]) 50 [(65, x42)] fun x43 w43 =>
 AskO X w43 [] (kb55_2 b0 b1 b2 b3 b4 b5 b6 b7 b8 b9 b10 x9 x1 x2 x10 x11 x12 x13 x17 x31 x34 x41) true (appOp (.tmp 62) (.tmp 66) 50) 50 [(62, x20), (66, x43)] fun x44 w44 =>
 Ask (rSel (aggArr x10) 16 1 false) fun x45 =>
 Ask (rIad X.P 50 x45 x26) fun x46 =>
 Ask (rLoad X w44 [] 49 x46) fun x47 =>
 AskO X w44 [] (kb55_2 b0 b1 b2 b3 b4 b5 b6 b7 b8 b9 b10 x9 x1 x2 x10 x11 x12 x13 x17 x31 x34 x41) false (Op.buildSlice 50 1 #[(0, Operand.tmp 73)]) 50 [(73, x47)] fun x48 w48 =>
 AskO X w48 [] (kb55_2 b0 b1 b2 b3 b4 b5 b6 b7 b8 b9 b10 x9 x1 x2 x10 x11 x12 x13 x17 x31 x34 x41) true (appOp (.tmp 68) (.tmp 74) 50) 50 [(68, x21), (74, x48)] fun x49 w49 =>
 AskF X 106 [x34, x12] fun x50 =>
 AskF X 59 [x41, x50] fun x51 =>
 AskF X 107 [(.agg #[x1, x2]), x12, x26] fun x52 =>
 AskF X 108 [(.agg #[x1, x2]), x26] fun x53 =>
 AskF X 59 [x52, x53] fun x54 =>
 AskF X 106 [x51, x54] fun x55 =>
 AskO X w49 [] (kb55_2 b0 b1 b2 b3 b4 b5 b6 b7 b8 b9 b10 x9 x1 x2 x10 x11 x12 x13 x17 x31 x34 x41) false (Op.buildSlice 50 1 #[(0, Operand.tmp 90)]) 50 [(90, x55)] fun x56 w56 =>
 AskO X w56 [] (kb55_2 b0 b1 b2 b3 b4 b5 b6 b7 b8 b9 b10 x9 x1 x2 x10 x11 x12 x13 x17 x31 x34 x41) true (appOp (.tmp 76) (.tmp 91) 50) 50 [(76, x22), (91, x56)] fun x57 w57 =>
 Ask (rSel (aggArr x10) 17 1 false) fun x58 =>
 Ask (rIad X.P 50 x58 x26) fun x59 =>
 Ask (rLoad X w57 [] 49 x59) fun x60 =>
 AskF X 59 [x41, x60] fun x61 =>
 AskO X w57 [] (kb55_2 b0 b1 b2 b3 b4 b5 b6 b7 b8 b9 b10 x9 x1 x2 x10 x11 x12 x13 x17 x31 x34 x41) false (Op.buildSlice 50 1 #[(0, Operand.tmp 100)]) 50 [(100, x61)] fun x62 w62 =>
 AskO X w62 [] (kb55_2 b0 b1 b2 b3 b4 b5 b6 b7 b8 b9 b10 x9 x1 x2 x10 x11 x12 x13 x17 x31 x34 x41) true (appOp (.tmp 93) (.tmp 101) 50) 50 [(93, x23), (101, x62)] fun x63 w63 =>
 Ask (rIad X.P 50 x44 x26) fun x64 =>
 Ask (rLoad X w63 [] 49 x64) fun x65 =>
 Ask (rIad X.P 50 x49 x26) fun x66 =>
 Ask (rLoad X w63 [] 49 x66) fun x67 =>
 AskF X 59 [x67, x13] fun x68 =>
 AskF X 106 [x65, x68] fun x69 =>
 AskO X w63 [] (kb55_2 b0 b1 b2 b3 b4 b5 b6 b7 b8 b9 b10 x9 x1 x2 x10 x11 x12 x13 x17 x31 x34 x41) false (Op.buildSlice 50 1 #[(0, Operand.tmp 114)]) 50 [(114, x69)] fun x70 w70 =>
 AskO X w70 [] (kb55_2 b0 b1 b2 b3 b4 b5 b6 b7 b8 b9 b10 x9 x1 x2 x10 x11 x12 x13 x17 x31 x34 x41) true (appOp (.tmp 103) (.tmp 115) 50) 50 [(103, x24), (115, x70)] fun x71 w71 =>
 Ask (rIad X.P 50 x57 x26) fun x72 =>
 Ask (rLoad X w71 [] 49 x72) fun x73 =>
 Ask (rIad X.P 50 x63 x26) fun x74 =>
 Ask (rLoad X w71 [] 49 x74) fun x75 =>
 AskF X 59 [x75, x13] fun x76 =>
 AskF X 106 [x73, x76] fun x77 =>
 AskO X w71 [] (kb55_2 b0 b1 b2 b3 b4 b5 b6 b7 b8 b9 b10 x9 x1 x2 x10 x11 x12 x13 x17 x31 x34 x41) false (Op.buildSlice 50 1 #[(0, Operand.tmp 128)]) 50 [(128, x77)] fun x78 w78 =>
 AskO X w78 [] (kb55_2 b0 b1 b2 b3 b4 b5 b6 b7 b8 b9 b10 x9 x1 x2 x10 x11 x12 x13 x17 x31 x34 x41) true (appOp (.tmp 117) (.tmp 129) 50) 50 [(117, x25), (129, x78)] fun x79 w79 =>
 Ask (rBin X.P .add 3 false true x26 (J 1)) fun x80 =>
 Again X w79 [] [] fun w => I0 [x36, x38, x44, x49, x57, x63, x71, x79, x80] w ∧ μ0 [x36, x38, x44, x49, x57, x63, x71, x79, x80] w < μ0 [x18, x19, x20, x21, x22, x23, x24, x25, x26] w27) ∧ (x28 = .bool false →
 Ask (rAgg 4 (.agg #[(U 0), (U 0), (U 0), (U 0)])) fun _ =>
 AskNew w27 fun b8 =>
 Ask (rAgg 4 (.agg #[(U 0), (U 0), (U 0), (U 0)])) fun x30 =>
 ∃ (I0 : List Value → World → Prop) (μ0 : List Value → World → Nat), (∀ w, KnownV X w27 [b8] (kb55_3 b0 b1 b2 b3 b4 b5 b6 b7 b8 x9 x1 x2 x10 x11 x12 x13 x17 x30) w → I0 [(.slice none 0 0), (J 0), x30] w) ∧ ∀ x31 x32 x33 w34, I0 [x31, x32, x33] w34 →
 Ask (rBin X.P .lss 3 false false x32 x2) fun x35 =>
 (∃ t, x35 = .bool t) ∧ (x35 = .bool true →
 Ask (rIad X.P 67 x3 x32) fun x36 =>
 Ask (rFad X.P 131 x36 0) fun x37 =>
 Ask (rLoad X w34 [] 22 x37) fun x38 =>
 AskF X 57 [x38] fun x39 =>
 Ask (rIad X.P 67 x3 x32) fun x40 =>
 Ask (rFad X.P 131 x40 1) fun x41 =>
 Ask (rLoad X w34 [] 49 x41) fun x42 =>
 AskW X w34 [] (kb55_4 b0 b1 b2 b3 b4 b5 b6 b7 b8 x9 x1 x2 x10 x11 x12 x13 x17 x33) false 109 [x9, x39, x42] fun x43 w43 =>
 AskO X w43 [] (kb55_4 b0 b1 b2 b3 b4 b5 b6 b7 b8 x9 x1 x2 x10 x11 x12 x13 x17 x33) false (Op.buildSlice 63 1 #[(0, Operand.tmp 151)]) 63 [(151, x43)] fun x44 w44 =>
 AskO X w44 [] (kb55_4 b0 b1 b2 b3 b4 b5 b6 b7 b8 x9 x1 x2 x10 x11 x12 x13 x17 x33) true (appOp (.tmp 138) (.tmp 152) 63) 63 [(138, x31), (152, x44)] fun x45 w45 =>
 Ask (rBin X.P .add 3 true false (J 2) x32) fun x46 =>
 AskF X 105 [x12, x46] fun x47 =>
 Ask (rIad X.P 67 x3 x32) fun x48 =>
 Ask (rFad X.P 131 x48 1) fun x49 =>
 Ask (rLoad X w45 [] 49 x49) fun x50 =>
 AskF X 59 [x47, x50] fun x51 =>
 AskF X 106 [x33, x51] fun x52 =>
 Ask (rAgg 4 x52) fun x53 =>
 Ask (rBin X.P .add 3 false true x32 (J 1)) fun x54 =>
 Again X w45 [b8] [] fun w => I0 [x45, x54, x53] w ∧ μ0 [x45, x54, x53] w < μ0 [x31, x32, x33] w34) ∧ (x35 = .bool false →
 AskW X w34 [] (kb55_4 b0 b1 b2 b3 b4 b5 b6 b7 b8 x9 x1 x2 x10 x11 x12 x13 x17 x33) false 110 [x20, x23] fun x36 w36 =>
 AskW X w36 [] (kb55_4 b0 b1 b2 b3 b4 b5 b6 b7 b8 x9 x1 x2 x10 x11 x12 x13 x17 x33) false 110 [x21, x22] fun x37 w37 =>
 AskF X 106 [x36, x37] fun x38 =>
 Ask (rAgg 4 (.agg #[(U 0), (U 0), (U 0), (U 0)])) fun _ =>
 AskNew w37 fun b9 =>
 Ask (rAgg 4 x38) fun x40 =>
 AskW X w37 [b9] (kb55_5 b0 b1 b2 b3 b4 b5 b6 b7 b8 b9 x9 x1 x2 x10 x11 x12 x13 x17 x33 x40) false 110 [x21, x23] fun x41 w41 =>
 Ask (rAgg 4 (.agg #[(U 0), (U 0), (U 0), (U 0)])) fun _ =>
 AskNew w41 fun b10 =>
 Ask (rAgg 4 x41) fun x43 =>
 AskW X w41 [b10] (kb55_6 b0 b1 b2 b3 b4 b5 b6 b7 b8 b9 b10 x9 x1 x2 x10 x11 x12 x13 x17 x33 x40 x43) false 110 [x24, x25] fun x44 w44 =>
 Ask (rAgg 4 x11) fun x45 =>
 Ask (rSel (aggArr x45) 0 1 false) fun x46 =>
 Ask (rSel (aggArr x45) 1 1 false) fun x47 =>
 Ask (rSel (aggArr x45) 2 1 false) fun x48 =>
 Ask (rSel (aggArr x45) 3 1 false) fun x49 =>
 Ask (rAgg 4 x12) fun x50 =>
 Ask (rSel (aggArr x50) 0 1 false) fun x51 =>
 Ask (rSel (aggArr x50) 1 1 false) fun x52 =>
 Ask (rSel (aggArr x50) 2 1 false) fun x53 =>
 Ask (rSel (aggArr x50) 3 1 false) fun x54 =>
 Ask (rAgg 4 x13) fun x55 =>
 Ask (rSel (aggArr x55) 0 1 false) fun x56 =>
 Ask (rSel (aggArr x55) 1 1 false) fun x57 =>
 Ask (rSel (aggArr x55) 2 1 false) fun x58 =>
 Ask (rSel (aggArr x55) 3 1 false) fun x59 =>
 Ask (rPlain x24) fun x60 =>
 Ask (rPlain x25) fun x61 =>
 Ask (rAgg 4 x44) fun x62 =>
 Ask (rSel (aggArr x62) 0 1 false) fun x63 =>
 Ask (rSel (aggArr x62) 1 1 false) fun x64 =>
 Ask (rSel (aggArr x62) 2 1 false) fun x65 =>
 Ask (rSel (aggArr x62) 3 1 false) fun x66 =>
 AskNew w41 fun b11 =>
 Ask (rPlain x46) fun x67 =>
 Ask (rPlain x47) fun x68 =>
 Ask (rPlain x48) fun x69 =>
 Ask (rPlain x49) fun x70 =>
 Ask (rPlain x51) fun x71 =>
 Ask (rPlain x52) fun x72 =>
 Ask (rPlain x53) fun x73 =>
 Ask (rPlain x54) fun x74 =>
 Ask (rPlain x56) fun x75 =>
 Ask (rPlain x57) fun x76 =>
 Ask (rPlain x58) fun x77 =>
 Ask (rPlain x59) fun x78 =>
 Ask (rPlain x63) fun x79 =>
 Ask (rPlain x64) fun x80 =>
 Ask (rPlain x65) fun x81 =>
 Ask (rPlain x66) fun x82 =>
 Ask (rPlain x60) fun x83 =>
 Ask (rPlain x61) fun x84 =>
 Ask (rSel (aggArr x10) 0 4 true) fun x85 =>
 AskW X w44 [b11] (kb55_7 b0 b1 b2 b3 b4 b5 b6 b7 b8 b9 b10 b11 x9 x1 x2 x10 x11 x12 x13 x17 x33 x40 x43 x67 x68 x69 x70 x71 x72 x73 x74 x75 x76 x77 x78 x79 x80 x81 x82 x83 x84) false 111 [x9, x85, x18, x19] fun x86 w86 =>
 Ask (rUpd #[(J 0), (J 0), (J 0), (J 0), (J 0), (J 0), (J 0), (J 0), (J 0), (J 0), (J 0), (J 0), (J 0), (J 0), (J 0), (J 0), (J 0), (J 0), (J 0), (J 0), (J 0), (U 0), (U 0), (U 0), (U 0), (.slice none 0 0), (J 0), (J 0), (J 0), (J 0), (J 0), (J 0), (J 0), (J 0), (J 0), (J 0), (J 0), (J 0), (J 0), (J 0), (J 0), (J 0), (J 0), (J 0), (J 0), (J 0), (J 0), (U 0), (U 0), (U 0), (U 0), (.slice none 0 0), (J 0), (J 0), (J 0), (J 0), (J 0), (J 0), (J 0), (J 0), (J 0), (J 0), (J 0), (J 0), (J 0), (J 0), (J 0), (J 0), (J 0), (J 0), (J 0), (J 0), (J 0), (U 0), (U 0), (U 0), (U 0), (.slice none 0 0), (J 0), (J 0), (J 0), (J 0), (J 0), (J 0), (J 0), (J 0), (J 0), (J 0), (J 0), (J 0), (J 0), (J 0), (J 0), (J 0), (J 0), (J 0), (J 0), (J 0), (J 0), (U 0), (U 0), (U 0), (U 0), (.slice none 0 0), x67, x68, x69, x70, x71, x72, x73, x74, x75, x76, x77, x78, (U 0), (U 0), (U 0), (U 0), (U 0), (U 0), (U 0), (U 0), x79, x80, x81, x82, x83, x84] 0 26 x86) fun x87 =>
 Ask (rSel (aggArr x10) 4 4 true) fun x88 =>
 Ask (rSel (aggArr x10) 16 1 false) fun x89 =>
 Ask (rSel (aggArr x10) 17 1 false) fun x90 =>
 AskW X w86 [b11] (kb55_8 b0 b1 b2 b3 b4 b5 b6 b7 b8 b9 b10 b11 x9 x1 x2 x10 x11 x12 x13 x17 x33 x40 x43 x87) false 111 [x9, x88, x89, x90] fun x91 w91 =>
 Ask (rUpd (aggArr x87) 26 26 x91) fun x92 =>
 Ask (rSel (aggArr x10) 8 4 true) fun x93 =>
 AskW X w91 [b11] (kb55_9 b0 b1 b2 b3 b4 b5 b6 b7 b8 b9 b10 b11 x9 x1 x2 x10 x11 x12 x13 x17 x33 x40 x43 x92) false 109 [x9, x40, x93] fun x94 w94 =>
 Ask (rUpd (aggArr x92) 52 26 x94) fun x95 =>
 Ask (rSel (aggArr x10) 12 4 true) fun x96 =>
 AskW X w94 [b11] (kb55_10 b0 b1 b2 b3 b4 b5 b6 b7 b8 b9 b10 b11 x9 x1 x2 x10 x11 x12 x13 x17 x33 x40 x43 x95) false 109 [x9, x43, x96] fun x97 w97 =>
 Ask (rUpd (aggArr x95) 78 26 x97) fun x98 =>
 Ask (rSel (aggArr x10) 8 4 true) fun x99 =>
 AskF X 59 [x99, x13] fun x100 =>
 Ask (rSel (aggArr x10) 12 4 true) fun x101 =>
 AskF X 59 [x101, x13] fun x102 =>
 AskF X 59 [x102, x13] fun x103 =>
 AskF X 106 [x100, x103] fun x104 =>
 AskF X 106 [x104, x33] fun x105 =>
 Ask (rUpd (aggArr x98) 116 4 x105) fun x106 =>
 Ask (rSel (aggArr x10) 0 4 true) fun x107 =>
 Ask (rSel (aggArr x10) 4 4 true) fun x108 =>
 AskF X 59 [x108, x13] fun x109 =>
 AskF X 106 [x107, x109] fun x110 =>
 Ask (rUpd (aggArr x106) 120 4 x110) fun x111 =>
 Ask (rAgg 130 x111) fun x112 =>
 Ret X w97 [b6, b11, b11, b11] [] (.tuple #[x31, x112])))) := by kernel_rfl
set_option maxHeartbeats 1000000 in
theorem keepsRWh : Keeps1 Tryz.prog GT 55 cRWh := by
  refine keepsW (T := Twh) (A := ann55) hMix keepTwh hGT (calls_of (by kernel_rfl)) (callsW_of (by kernel_rfl)) fun args d w0 hrd hpre _ => ?_
  obtain ⟨_, _, rfl, ⟨g, h, rfl, hg, hh⟩, _, _, rfl, rfl, v, _, rfl, hv, _, _, rfl, ⟨sv, rv, rfl, hsl, hsr⟩, _, _, rfl, rfl, _, _, rfl, rfl, _, _, rfl, rfl, rfl⟩ := hrd
  dsimp only at hg hh hv hsl hsr
  replace hg : LsEF w0 g d.p.2.2.2.1 := hg
  replace hh : LsEF w0 h d.p.2.2.2.2 := hh
  replace hv : LsO w0 v d.vs := hv
  replace hsl : LsF w0 sv d.t.2.2.2.2.1 := hsl
  replace hsr : LsF w0 rv d.t.2.2.2.2.2 := hsr
  have hN : d.N ≤ 1024 := Nat.le_trans (Nat.mul_le_mul hpre.m1 hpre.n1) (by decide)
  have hNe : sizeI (d.m : Int) (d.n : Int) = ((d.N : Nat) : Int) := sizeI_nat (by have : d.m * d.n ≤ 1024 := hN; omega)
  refine ⟨[.x (.v 0), .l [.v 1, .v 2], .x (.v 3), .x (.v 4), .x (.v 5), .x (.v 6), .x (.v 7)], [], [], 9, env0 [.agg (rsetL d.p g h).toArray, J d.m, J d.n, v, .agg (tpL d.t sv rv).toArray, S d.y.val, S d.z.val, S d.x.val] w0, fun b => b, 0, rfl, rfl, fun X hX => mem_none hX rfl, fun X hP hS hw hX hR => ?_⟩
  subst hw; try dsimp only at hR
  rw [vc55 X]
  refine a_agg (rsetL_len _ _ _) (rsetL_one (slAt_one hg.1) (slAt_one hh.1)) ?_
  intro b0 hb0 b1 hb1
  refine a_agg (tpL_len _ _ _) (tpL_one (slAt_one hsl.1) (slAt_one hsr.1)) ?_
  intro b2 hb2
  rw [ask_aggS]; intro b3 hb3
  rw [ask_aggS]; intro b4 hb4
  rw [ask_aggS]; intro b5 hb5 b6 hb6
  refine call_PE hS (T := Twh) (f := 23) rfl (d.m, d.n) trivial ?_
  dsimp only
  rw [hNe]
  refine w_One hS ?_
  rw [ask_zero4]; intro b7 hb7
  rw [ask_aggS]
  refine ⟨fun a w => ∃ (i : Nat) (V : Nat → Value), a = [V 0, V 1, V 2, V 3, V 4, V 5, V 6, V 7, J i] ∧ i ≤ d.N ∧ Kn X w ∧ MRows X.w0 w 49 4 encF [b7, b6, b5, b4, b3, b2, b1, b0] 8 V (fun j => mapN (d.fam j) i), fun a _ => match a with | [_, _, _, _, _, _, _, _, i] => d.N - intNat i | _ => 0,
    fun w hw => ⟨0, fun _ => .slice none 0 0, rfl, Nat.zero_le _, hw.kn, ?_⟩, ?_⟩
  · exact (MRows.nil X.w0 (hw.stp.drop (by simpa using hb7)) encF [b7, b6, b5, b4, b3, b2, b1, b0] 8 _ 4).congr fun j _ => rfl
  rintro _ _ _ _ _ _ _ _ _ w ⟨i, V, he, hi, hk, hm⟩
  simp only [List.cons.injEq, and_true] at he
  obtain ⟨rfl, rfl, rfl, rfl, rfl, rfl, rfl, rfl, rfl⟩ := he
  rw [ask_lssN]
  refine a_ifD (fun hlt => ?_) fun hge => ?_
  · have s0 := hk.stp0 hX
    have hdiv : i / d.m < d.n := Nat.div_lt_of_lt_mul hlt
    refine call_W hX hS (T := Twh) (f := 104) rfl ((d.m, d.n), d.vs, i, ()) (fun w2 hw2 => ⟨⟨_, _, rfl, rfl, _, _, rfl, cLO_stable _ _ _ _ (s0.trans0 hw2.stp) hv, _, _, rfl, rfl, rfl⟩, hpre.m0, hpre.m1, by rw [hpre.vs]; exact hdiv, by show i < 2 ^ 62; omega⟩) fun q w2 w3 h2 k3 s3 su3 hq => ?_
    dsimp only at hq
    subst hq
    replace hm := hm.stp su3
    rw [ask_zero4]; intro b8 hb8
    rw [ask_aggS]
    refine w_Sub hS ?_
    rw [ask_zero4]; intro b9 hb9
    rw [ask_aggS]
    have z0 : X.w0.heap.size ≤ w3.heap.size := k3.sz0
    replace hm := (hm.more hb8).more hb9
    have hlen : ∀ j, (mapN (d.fam j) i).length = i := fun j => mapN_len _ _
    have big : ∀ {k : Nat}, k ≤ 2000 → k ≤ maxLen ∧ k * 32 ≤ 140737488355328 := fun hk => ⟨by unfold maxLen; omega, by omega⟩
    have last : ∀ f : Nat → F, (mapN f i ++ [f i]).getD i 0 = f i := fun f => by rw [← mapN_succ, mapN_get f 0 (Nat.lt_succ_self i)]
    have ow98 : ∀ b ∈ [b9, b8], b ∈ [b9, b8, b7, b6, b5, b4, b3, b2, b1, b0] ∧ X.w0.heap.size ≤ b := fun b hb => by
      simp only [List.mem_cons, List.not_mem_nil, or_false] at hb
      rcases hb with rfl | rfl <;> exact ⟨by simp, by omega⟩
    have own : ∀ {P : Nat → Prop} (b : Nat), b ∈ ([] : List Nat) → P b := fun b hb => by cases hb
    refine a_pushR [d.fam 0 i] 1 rfl hX hP tyRI rfl rfl (by decide) encF_len hm (i := 0) (by decide) rfl (Nat.le_refl _) (fun b hb => .inr (by simpa [kb55_1, or_comm, or_left_comm, or_assoc] using hb)) (fun b hb => by simpa [kb55_1, or_comm, or_left_comm, or_assoc] using hb) (ow98) (by decide) (by decide) (by kernel_rfl) (by simp [one_encF]) (big (by show (mapN (d.fam 0) i).length + 1 ≤ _; rw [hlen]; omega)).1 (big (by show (mapN (d.fam 0) i).length + 1 ≤ _; rw [hlen]; omega)).2 fun v0 w0 k0 z0 hm => ?_
    refine a_pushR [d.fam 1 i] 1 rfl hX hP tyRI rfl rfl (by decide) encF_len hm (i := 1) (by decide) rfl (Nat.le_refl _) (fun b hb => .inr (by simpa [kb55_1, or_comm, or_left_comm, or_assoc] using hb)) (fun b hb => by simpa [kb55_1, or_comm, or_left_comm, or_assoc] using hb) (own) (by decide) (by decide) (by kernel_rfl) (by simp [one_encF]) (big (by show (mapN (d.fam 1) i).length + 1 ≤ _; rw [hlen]; omega)).1 (big (by show (mapN (d.fam 1) i).length + 1 ≤ _; rw [hlen]; omega)).2 fun v1 w1 k1 z1 hm => ?_
    refine w_Pow hS (by omega) ?_
    rw [ask_zero4]; intro b10 hb10
    rw [ask_aggS]
    refine w_Sub hS ?_
    have zw1 := k1.sz0
    replace hm := hm.more hb10
    have ow10 : ∀ b ∈ [b10], b ∈ [b10, b9, b8, b7, b6, b5, b4, b3, b2, b1, b0] ∧ X.w0.heap.size ≤ b := fun b hb => by
      simp only [List.mem_cons, List.not_mem_nil, or_false] at hb
      subst hb; exact ⟨by simp, by omega⟩
    refine a_pushR [d.fam 2 i] 1 rfl hX hP tyRI rfl rfl (by decide) encF_len hm (i := 2) (by decide) rfl (Nat.le_refl _) (fun b hb => .inr (by simpa [kb55_2, or_comm, or_left_comm, or_assoc] using hb)) (fun b hb => by simpa [kb55_2, or_comm, or_left_comm, or_assoc] using hb) (ow10) (by decide) (by decide) (by kernel_rfl) (by simp [one_encF]) (big (by show (mapN (d.fam 2) i).length + 1 ≤ _; rw [hlen]; omega)).1 (big (by show (mapN (d.fam 2) i).length + 1 ≤ _; rw [hlen]; omega)).2 fun v2 w2 k2 z2 hm => ?_
    refine a_sel1 (v := sv) rfl ?_
    refine ld_RF hP k2 (hsl.1.stp0 (k2.stp0 hX)) rfl (by rw [hpre.sl]; exact hlt) (fun _ _ => List.not_mem_nil) ?_
    refine a_pushR [d.fam 3 i] 1 rfl hX hP tyRI rfl rfl (by decide) encF_len hm (i := 3) (by decide) rfl (Nat.le_refl _) (fun b hb => .inr (by simpa [kb55_2, or_comm, or_left_comm, or_assoc] using hb)) (fun b hb => by simpa [kb55_2, or_comm, or_left_comm, or_assoc] using hb) (own) (by decide) (by decide) (by kernel_rfl) (by simp [one_encF]) (big (by show (mapN (d.fam 3) i).length + 1 ≤ _; rw [hlen]; omega)).1 (big (by show (mapN (d.fam 3) i).length + 1 ≤ _; rw [hlen]; omega)).2 fun v3 w3 k3 z3 hm => ?_
    refine w_Add hS ?_
    refine w_Mul hS ?_
    refine call_PE hS (T := Twh) (f := 107) rfl (d.m, d.n, d.z.val, i) ⟨hpre.m0, val_lt _, show i < 2 ^ 62 by omega⟩ ?_
    refine call_PE hS (T := Twh) (f := 108) rfl (d.m, d.n, i) ⟨hpre.m0, hpre.m1⟩ ?_
    dsimp only
    rw [rF_val]
    refine w_Mul hS ?_
    refine w_Add hS ?_
    refine a_pushR [d.fam 4 i] 1 rfl hX hP tyRI rfl rfl (by decide) encF_len hm (i := 4) (by decide) rfl (Nat.le_refl _) (fun b hb => .inr (by simpa [kb55_2, or_comm, or_left_comm, or_assoc] using hb)) (fun b hb => by simpa [kb55_2, or_comm, or_left_comm, or_assoc] using hb) (own) (by decide) (by decide) (by kernel_rfl) (by simp [one_encF]) (big (by show (mapN (d.fam 4) i).length + 1 ≤ _; rw [hlen]; omega)).1 (big (by show (mapN (d.fam 4) i).length + 1 ≤ _; rw [hlen]; omega)).2 fun v4 w4 k4 z4 hm => ?_
    refine a_sel1 (v := rv) rfl ?_
    refine ld_RF hP k4 (hsr.1.stp0 (k4.stp0 hX)) rfl (by rw [hpre.sr]; exact hlt) (fun _ _ => List.not_mem_nil) ?_
    refine w_Mul hS ?_
    refine a_pushR [d.fam 5 i] 1 rfl hX hP tyRI rfl rfl (by decide) encF_len hm (i := 5) (by decide) rfl (Nat.le_refl _) (fun b hb => .inr (by simpa [kb55_2, or_comm, or_left_comm, or_assoc] using hb)) (fun b hb => by simpa [kb55_2, or_comm, or_left_comm, or_assoc] using hb) (own) (by decide) (by decide) (by kernel_rfl) (by simp [one_encF]) (big (by show (mapN (d.fam 5) i).length + 1 ≤ _; rw [hlen]; omega)).1 (big (by show (mapN (d.fam 5) i).length + 1 ≤ _; rw [hlen]; omega)).2 fun v5 w5 k5 z5 hm => ?_
    refine ld_RF (l := mapN (d.fam 2) i ++ [d.fam 2 i]) hP k5 (own_slAt (hm.row 2 (by decide))) rfl (by rw [List.length_append, hlen]; exact Nat.lt_succ_self i) (fun _ _ => List.not_mem_nil) ?_
    rw [last]
    refine ld_RF (l := mapN (d.fam 3) i ++ [d.fam 3 i]) hP k5 (own_slAt (hm.row 3 (by decide))) rfl (by rw [List.length_append, hlen]; exact Nat.lt_succ_self i) (fun _ _ => List.not_mem_nil) ?_
    rw [last]
    refine w_Mul hS ?_
    refine w_Add hS ?_
    refine a_pushR [d.fam 6 i] 1 rfl hX hP tyRI rfl rfl (by decide) encF_len hm (i := 6) (by decide) rfl (Nat.le_refl _) (fun b hb => .inr (by simpa [kb55_2, or_comm, or_left_comm, or_assoc] using hb)) (fun b hb => by simpa [kb55_2, or_comm, or_left_comm, or_assoc] using hb) (own) (by decide) (by decide) (by kernel_rfl) (by simp [one_encF]) (big (by show (mapN (d.fam 6) i).length + 1 ≤ _; rw [hlen]; omega)).1 (big (by show (mapN (d.fam 6) i).length + 1 ≤ _; rw [hlen]; omega)).2 fun v6 w6 k6 z6 hm => ?_
    refine ld_RF (l := mapN (d.fam 4) i ++ [d.fam 4 i]) hP k6 (own_slAt (hm.row 4 (by decide))) rfl (by rw [List.length_append, hlen]; exact Nat.lt_succ_self i) (fun _ _ => List.not_mem_nil) ?_
    rw [last]
    refine ld_RF (l := mapN (d.fam 5) i ++ [d.fam 5 i]) hP k6 (own_slAt (hm.row 5 (by decide))) rfl (by rw [List.length_append, hlen]; exact Nat.lt_succ_self i) (fun _ _ => List.not_mem_nil) ?_
    rw [last]
    refine w_Mul hS ?_
    refine w_Add hS ?_
    refine a_pushR [d.fam 7 i] 1 rfl hX hP tyRI rfl rfl (by decide) encF_len hm (i := 7) (by decide) rfl (Nat.le_refl _) (fun b hb => .inr (by simpa [kb55_2, or_comm, or_left_comm, or_assoc] using hb)) (fun b hb => by simpa [kb55_2, or_comm, or_left_comm, or_assoc] using hb) (own) (by decide) (by decide) (by kernel_rfl) (by simp [one_encF]) (big (by show (mapN (d.fam 7) i).length + 1 ≤ _; rw [hlen]; omega)).1 (big (by show (mapN (d.fam 7) i).length + 1 ≤ _; rw [hlen]; omega)).2 fun v7 w7 k7 z7 hm => ?_
    rw [ask_succ (by omega)]
    intro w9 hw9
    refine ⟨⟨i + 1, _, rfl, hlt, hw9.kn, ((hm.stp hw9.stp).less (fun b hb => by simp only [List.mem_cons, List.not_mem_nil, or_false] at hb ⊢; omega)).congr (all8I ?_ ?_ ?_ ?_ ?_ ?_ ?_ ?_)⟩, by simp [intNat]; omega⟩
    all_goals exact (mapN_succ _ _).symm
  · obtain rfl : i = d.N := by omega
    rw [ask_zero4]; intro b8 hb8
    rw [ask_zero4]
    have zU := hk.sz0
    replace hm := hm.more hb8
    have hm0 : MRows X.w0 w 49 4 encF [b8, b7, b6, b5, b4, b3, b2, b1, b0] 8 V (fun j => mapN (d.fam j) d.N) := hm
    refine ⟨fun a w => ∃ (j : Nat) (vv : Value), a = [vv, J j, S (d.blinds j).val] ∧ j ≤ d.n ∧ Kn X w ∧ MRows X.w0 w 49 4 encF [b8, b7, b6, b5, b4, b3, b2, b1, b0] 8 V (fun j => mapN (d.fam j) d.N) ∧ MRows X.w0 w 62 26 encEF [b8, b7, b6, b5, b4, b3, b2, b1, b0] 1 (fun _ => vv) (fun _ => mapN d.com j), fun a _ => match a with | [_, j, _] => d.n - intNat j | _ => 0,
      fun w2 hw2 => ⟨0, .slice none 0 0, rfl, Nat.zero_le _, hw2.kn, hm0.stpE hw2.stp (by simp) (by simp; omega), ?_⟩, ?_⟩
    · exact MRows.nil X.w0 (hm0.low.trans0 (hw2.stp.drop (by simpa using hb8))) encEF _ 1 _ 26
    rintro _ _ _ w2 ⟨j, vv, he, hj, hk2, hm2, hv2⟩
    simp only [List.cons.injEq, and_true] at he
    obtain ⟨rfl, rfl, rfl⟩ := he
    have s2 := hk2.stp0 hX
    rw [ask_lssN]
    refine a_ifD (fun hlt => ?_) fun hge => ?_
    · have hjv : j < d.vs.length := by rw [hpre.vs]; exact hlt
      have hOv := okO_at hv j
      have hn1 := hpre.n1
      refine ld_OV hP hk2 (hv.1.stp0 s2) rfl hjv (fun _ _ => List.not_mem_nil) ?_
      refine call_PE hS (T := Twh) (f := 57) rfl (vAt d.vs j) hOv.1 ?_
      refine ld_OB hP hk2 (hv.1.stp0 s2) rfl hjv (fun _ _ => List.not_mem_nil) ?_
      refine call_W hX hS (T := Twh) (f := 109) rfl (d.p, vAt d.vs j, bAt d.vs j, ()) (fun w3 hw3 => ⟨⟨_, _, rfl, cRSetF_stable _ _ _ _ (s2.trans0 hw3.stp) ⟨g, h, rfl, hg, hh⟩, _, _, rfl, ⟨rfl, Nat.lt_trans hOv.1 (by decide)⟩, _, _, rfl, ⟨rfl, hOv.2⟩, rfl⟩, trivial⟩) fun q w3 w4 h3 k4 s4 su4 hq => ?_
      dsimp only at hq
      subst hq
      replace hm2 := hm2.stp su4
      replace hv2 := hv2.stp su4
      refine a_pushR [d.com j] 1 rfl hX hP tyEI rfl rfl (by decide) encEF_len hv2 (i := 0) (by decide) rfl (Nat.le_refl _) (fun b hb => .inr (by simpa [kb55_4, or_comm, or_left_comm, or_assoc] using hb)) (fun b hb => by simpa [kb55_4, or_comm, or_left_comm, or_assoc] using hb) (fun b hb => by cases hb) (by decide) (by decide) (by kernel_rfl) (by simp [one_encEF]) (by rw [mapN_len]; unfold maxLen; omega) (by rw [mapN_len]; omega) fun v5 w5 k5 z5 hv5 => ?_
      have hm5 := hm2.stpD z5 (fun j' hj' g' hg' => own_diffI (hm2.row j' hj') (hv2.row 0 (by decide)) (by decide) g' hg') (fun b hb => ((hv2.row 0 (by decide)).lt b (by simpa using hb)).1)
      rw [ask_addN (by omega)]
      refine w_Pow hS (by omega) ?_
      refine ld_OB hP k5 (hv.1.stp0 (k5.stp0 hX)) rfl hjv (fun _ _ => List.not_mem_nil) ?_
      refine w_MulN hS hOv.2 ?_
      refine w_Add hS ?_
      rw [ask_aggS, ask_succ (by omega)]
      intro w6 hw6
      have e6 : ∀ b ∈ [b8], b ∈ [b8, b7, b6, b5, b4, b3, b2, b1, b0] := by simp
      have e7 : ∀ b ∈ [b8], X.w0.heap.size ≤ b := by simp; omega
      refine ⟨⟨j + 1, v5, rfl, hlt, hw6.kn, hm5.stpE hw6.stp e6 e7, (hv5.stpE hw6.stp e6 e7).congrV (fun q hq => ?_) (fun q hq => ?_)⟩, by simp [intNat]; omega⟩
      · obtain rfl : q = 0 := by omega
        rfl
      · obtain rfl : q = 0 := by omega
        exact (mapN_succ _ _).symm
    · obtain rfl : j = d.n := by omega
      have rd : ∀ (j : Nat) {w' : World}, j < 8 → Stp [] w2 w' → cLF.rd w' (V j) (mapN (d.fam j) d.N) := fun j w' hj hs => ⟨(own_slAt (hm2.row j hj)).stp0 hs, fun _ _ => trivial⟩
      have len : ∀ f g : Nat → F, (mapN f d.N).length ≤ (mapN g d.N).length := fun f g => by rw [mapN_len, mapN_len]; exact Nat.le_refl _
      refine call_W hX hS (T := Twh) (f := 110) rfl (mapN d.l0 d.N, mapN d.r1 d.N, ()) (fun w3 hw3 => ⟨⟨_, _, rfl, rd 2 (by decide) hw3.stp, _, _, rfl, rd 5 (by decide) hw3.stp, rfl⟩, len _ _⟩) fun q w3 w4 h3 k4 s4 su4 hq => ?_
      dsimp only at hq
      subst hq
      refine call_W hX hS (T := Twh) (f := 110) rfl (mapN d.sl d.N, mapN d.r0 d.N, ()) (fun w3 hw3 => ⟨⟨_, _, rfl, rd 3 (by decide) (su4.trans0 hw3.stp), _, _, rfl, rd 4 (by decide) (su4.trans0 hw3.stp), rfl⟩, len _ _⟩) fun q w3 w5 h3 k5 s5 su5 hq => ?_
      dsimp only at hq
      subst hq
      rw [innF_mapN, innF_mapN]
      refine w_Add hS ?_
      rw [ask_zero4]; intro b9 hb9
      rw [ask_aggS]
      have su5' := su4.trans0 su5
      refine call_W hX hS (T := Twh) (f := 110) rfl (mapN d.sl d.N, mapN d.r1 d.N, ()) (fun w3 hw3 => ⟨⟨_, _, rfl, rd 3 (by decide) (su5'.trans0 (hw3.stp.drop (by simpa using hb9))), _, _, rfl, rd 5 (by decide) (su5'.trans0 (hw3.stp.drop (by simpa using hb9))), rfl⟩, len _ _⟩) fun q w3 w6 h3 k6 s6 su6 hq => ?_
      dsimp only at hq
      subst hq
      have su6' := su5'.trans0 (su6.drop (by simpa using hb9))
      rw [innF_mapN, ask_zero4]; intro b10 hb10
      rw [ask_aggS]
      refine call_W hX hS (T := Twh) (f := 110) rfl (mapN d.l d.N, mapN d.r d.N, ()) (fun w3 hw3 => ⟨⟨_, _, rfl, rd 6 (by decide) (su6'.trans0 (hw3.stp.drop (by simpa using hb10))), _, _, rfl, rd 7 (by decide) (su6'.trans0 (hw3.stp.drop (by simpa using hb10))), rfl⟩, len _ _⟩) fun q w3 w7 h3 k7 s7 su7 hq => ?_
      dsimp only at hq
      subst hq
      have su7' := su6'.trans0 (su7.drop (by simpa using hb10))
      rw [innF_mapN]
      iterate 3 rw [ask_aggS, ask_selS0, ask_selS1, ask_selS2, ask_selS3]
      refine a_plain (own_one (hm2.row 6 (by decide))) ?_
      refine a_plain (own_one (hm2.row 7 (by decide))) ?_
      rw [ask_aggS, ask_selS0, ask_selS1, ask_selS2, ask_selS3]
      intro b11 hb11
      iterate 16 refine a_plain rfl ?_
      refine a_plain (own_one (hm2.row 6 (by decide))) ?_
      refine a_plain (own_one (hm2.row 7 (by decide))) ?_
      have t7 : Stp [] w6 w7 := su7.drop (by simpa using hb10)
      have dr : ∀ {wa wb : World}, Stp [] w6 wa → Stp [b11] wa wb → Stp [] w6 wb := fun h k => by simpa using (h.trans k).drop (by simpa using hb11)
      have set : ∀ {w' : World}, Stp [] w6 w' → cRSetF.rd w' (.agg (rsetL d.p g h).toArray) d.p := fun hs => cRSetF_stable _ _ _ _ ((s2.trans0 su6').trans0 hs) ⟨g, h, rfl, hg, hh⟩
      have s06 : Stp [] X.w0 w6 := s2.trans0 su6'
      have lN' : ∀ f : Nat → F, (mapN f d.N).length = d.N := fun f => mapN_len _ _
      refine a_selL (ds := encF d.t.1) rfl (by rw [tpL_len]; omega) ?_
      refine call_W hX hS (T := Twh) (f := 111) rfl (d.p, d.t.1.val, mapN d.bit d.N, mapN (fun i => d.bit i - 1) d.N, ()) (fun w3 hw3 => ⟨⟨_, _, rfl, set (dr t7 hw3.stp), _, _, rfl, ⟨rfl, val_lt _⟩, _, _, rfl, rd 0 (by decide) (su6'.trans0 (dr t7 hw3.stp)), _, _, rfl, rd 1 (by decide) (su6'.trans0 (dr t7 hw3.stp)), rfl⟩, by rw [lN']; exact hpre.G, by rw [lN']; exact hpre.H, by rw [lN', lN']; exact Nat.le_refl _⟩) fun q w3 w8 h3 k8 s8 su8 hq => ?_
      dsimp only at hq
      have hq : q = EF d.A := by rw [hq, rF_val]; rfl
      subst hq
      have t8 := dr t7 su8
      refine a_upd3 [] zE (zE ++ zE ++ zE ++ (encF d.y ++ encF d.z ++ encF d.x ++ encF 0 ++ encF 0 ++ encF d.that ++ [V 6, V 7])) (encEF d.A) (by kernel_rfl) (by simp [EF, E, encEF, Value.cells]) rfl rfl rfl (one_encEF _) ?_
      refine a_selL (ds := encF d.t.2.1) rfl (by rw [tpL_len]; omega) ?_
      refine a_sel1 (v := sv) rfl ?_
      refine a_sel1 (v := rv) rfl ?_
      refine call_W hX hS (T := Twh) (f := 111) rfl (d.p, d.t.2.1.val, d.t.2.2.2.2.1, d.t.2.2.2.2.2, ()) (fun w3 hw3 => ⟨⟨_, _, rfl, set (dr t8 hw3.stp), _, _, rfl, ⟨rfl, val_lt _⟩, _, _, rfl, cLF_stable _ _ _ _ (s06.trans0 (dr t8 hw3.stp)) hsl, _, _, rfl, cLF_stable _ _ _ _ (s06.trans0 (dr t8 hw3.stp)) hsr, rfl⟩, by rw [hpre.sl]; exact hpre.G, by rw [hpre.sl]; exact hpre.H, by rw [hpre.sl, hpre.sr]; exact Nat.le_refl _⟩) fun q w3 w9 h3 k9 s9 su9 hq => ?_
      dsimp only at hq
      have hq : q = EF d.Sg := by rw [hq, rF_val]; rfl
      subst hq
      have t9 := dr t8 su9
      refine a_upd3 (encEF d.A) zE (zE ++ zE ++ (encF d.y ++ encF d.z ++ encF d.x ++ encF 0 ++ encF 0 ++ encF d.that ++ [V 6, V 7])) (encEF d.Sg) (by kernel_rfl) (by simp [EF, E, encEF, Value.cells]) rfl rfl rfl (one_encEF _) ?_
      refine a_selL (ds := encF d.t.2.2.1) rfl (by rw [tpL_len]; omega) ?_
      refine call_W hX hS (T := Twh) (f := 109) rfl (d.p, d.t1.val, d.t.2.2.1.val, ()) (fun w3 hw3 => ⟨⟨_, _, rfl, set (dr t9 hw3.stp), _, _, rfl, ⟨rfl, val_lt _⟩, _, _, rfl, ⟨rfl, val_lt _⟩, rfl⟩, trivial⟩) fun q w3 w10 h3 k10 s10 su10 hq => ?_
      dsimp only at hq
      have hq : q = EF d.T1 := by rw [hq, rF_val, rF_val]; rfl
      subst hq
      have t10 := dr t9 su10
      refine a_upd3 (encEF d.A ++ encEF d.Sg) zE (zE ++ (encF d.y ++ encF d.z ++ encF d.x ++ encF 0 ++ encF 0 ++ encF d.that ++ [V 6, V 7])) (encEF d.T1) (by kernel_rfl) (by simp [EF, E, encEF, Value.cells]) rfl rfl rfl (one_encEF _) ?_
      refine a_selL (ds := encF d.t.2.2.2.1) rfl (by rw [tpL_len]; omega) ?_
      refine call_W hX hS (T := Twh) (f := 109) rfl (d.p, d.t2.val, d.t.2.2.2.1.val, ()) (fun w3 hw3 => ⟨⟨_, _, rfl, set (dr t10 hw3.stp), _, _, rfl, ⟨rfl, val_lt _⟩, _, _, rfl, ⟨rfl, val_lt _⟩, rfl⟩, trivial⟩) fun q w3 w11 h3 k11 s11 su11 hq => ?_
      dsimp only at hq
      have hq : q = EF d.T2 := by rw [hq, rF_val, rF_val]; rfl
      subst hq
      have t11 := dr t10 su11
      refine a_upd3 (encEF d.A ++ encEF d.Sg ++ encEF d.T1) zE (encF d.y ++ encF d.z ++ encF d.x ++ encF 0 ++ encF 0 ++ encF d.that ++ [V 6, V 7]) (encEF d.T2) (by kernel_rfl) (by simp [EF, E, encEF, Value.cells]) rfl rfl rfl (one_encEF _) ?_
      refine a_selL (ds := encF d.t.2.2.1) rfl (by rw [tpL_len]; omega) ?_
      refine w_Mul (a := d.t.2.2.1) hS ?_
      refine a_selL (ds := encF d.t.2.2.2.1) rfl (by rw [tpL_len]; omega) ?_
      refine w_Mul (a := d.t.2.2.2.1) hS ?_
      refine w_Mul hS ?_
      refine w_Add hS ?_
      refine w_Add hS ?_
      refine a_upd3 (encEF d.A ++ encEF d.Sg ++ encEF d.T1 ++ encEF d.T2 ++ encF d.y ++ encF d.z ++ encF d.x) (encF 0) (encF 0 ++ encF d.that ++ [V 6, V 7]) (encF d.taux) (by kernel_rfl) rfl rfl rfl rfl (one_encF _) ?_
      refine a_selL (ds := encF d.t.1) rfl (by rw [tpL_len]; omega) ?_
      refine a_selL (ds := encF d.t.2.1) rfl (by rw [tpL_len]; omega) ?_
      refine w_Mul (a := d.t.2.1) hS ?_
      refine w_Add (a := d.t.1) hS ?_
      refine a_upd3 (encEF d.A ++ encEF d.Sg ++ encEF d.T1 ++ encEF d.T2 ++ encF d.y ++ encF d.z ++ encF d.x ++ encF d.taux) (encF 0) (encF d.that ++ [V 6, V 7]) (encF d.mu) (by kernel_rfl) rfl rfl rfl rfl (one_encF _) ?_
      have o6 := own_one (hm2.row 6 (by decide))
      have o7 := own_one (hm2.row 7 (by decide))
      refine a_agg rfl (by simp only [List.all_append, one_encEF, one_encF, List.all_cons, List.all_nil, o6, o7, Bool.and_true]) ?_
      refine hR _ _ _ _ fun wf hwf => ?_
      have u11 : Stp [] w2 w11 := su6'.trans0 t11
      have z26 := su6'.size
      have off : ∀ {v' : Value} {n' : Nat} {xs : List Value} {e' s' : Nat}, w2.ownsRow X.w0.heap.size e' s' v' n' xs → (∀ g', v'.ownBlock = some g' → g' ∉ [b8, b7, b6, b5, b4, b3, b2, b1, b0]) → ∀ g', v'.ownBlock = some g' → g' ∉ [b6, b11, b11, b11] := fun ho hn g' hg' hm' => by
        have h1 := (ho.lt g' hg').2
        simp only [List.mem_cons, List.not_mem_nil, or_false] at hm'
        rcases hm' with rfl | h2
        · exact hn _ hg' (by simp)
        · omega
      have rdl : ∀ j, j < 8 → cLF.rd wf (V j) (mapN (d.fam j) d.N) := fun j hj => ⟨((own_slAt (hm2.row j hj)).stp0 u11).stp hwf.stp (off (hm2.row j hj) (hm2.off j hj)), fun _ _ => trivial⟩
      exact ⟨_, _, rfl, ⟨((own_slAt (hv2.row 0 (by decide))).stp0 u11).stp hwf.stp (off (hv2.row 0 (by decide)) (hv2.off 0 (by decide))), fun _ _ => trivial⟩, V 6, V 7, rfl, rdl 6 (by decide), rdl 7 (by decide)⟩
#print axioms keepsRWh
end Go.Vc
