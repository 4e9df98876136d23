/-
  The program's way back (ideal.Back), over the lines.
-/
import Derived.Test.YtcnmnmhmmgjblaaGreatDoorDIk
import Derived.Test.YtcnmnmhmmgjblaaGreatDoorDIi
namespace Go.Vc
open Go Go.Proofs Go.RowKit
/-- A literal that is built already, appended to one of many. -/
theorem a_appR {α : Type} {X : Ctx} {u U : World} {bl' : List KB} {KW : Value → World → Prop} {P : Program} {t e ty' size bytes : Nat} {a b : Nat} {z : Value} {enc : α → List Value} {nb : List Nat} {N i : Nat} {V : Nat → Value} {l : Nat → List α}
    (zs : List α) (k : Nat) (hk : zs.length = k) (hX : Std X) (hP : X.P = P) (hT : ElTy P t e size bytes z) (hab : (a == b) = false) (hzs : z.cells.size = size) (hsz : 0 < size) (hlen : ∀ x, (enc x).length = size) (hR : MRows U u e size enc nb N V l) (hi : i < N) {v x : Value} (hv : V i = v)
    (hU : X.w0.heap.size ≤ U.heap.size) (hnb : ∀ b ∈ nb, b < u.heap.size ∨ b ∈ bl'.map (·.b)) (hsub : ∀ b ∈ bl'.map (·.b), b ∈ nb) (hx : SlAt u x k (zs.flatMap enc)) (hone : (zs.flatMap enc).all (·.oneCell') = true)
    (h63 : (l i).length + k ≤ maxLen) (hbytes : ((l i).length + k) * bytes ≤ 140737488355328)
    (hK : ∀ v' w', Kn X w' → Stp v.ownBlock.toList u w' → MRows U w' e size enc nb N (upd V i v') (upd l i (l i ++ zs)) → KW v' w') :
    AskO X u [] bl' true (appOp (.tmp a) (.tmp b) t) ty' [(a, v), (b, x)] KW := by
  subst hv
  have hcs : (zs.flatMap enc).length = k * size := by rw [flat_len hlen, hk]
  refine a_append hX hP hT (by simp [argsFn]) (by simp [argsFn, hab]) hzs hsz hU hR.low.size (hR.row i hi) (fun w2 hw2 => hx.stp0 hw2.stp) hcs (fun c hc => List.all_eq_true.1 hone c hc) (fun _ _ => List.not_mem_nil) (fun w2 hw2 g hg hm => hR.off i hi g hg (hsub g hm)) h63 hbytes fun v' w2 w' hw2 hk' hs2 hs3 hown' hbl => ?_
  have hs3' : Stp (V i).ownBlock.toList u w' := by simpa using hs3
  exact hK v' w' hk' hs3' (hR.put hi (ow := []) (bs := bl'.map (·.b)) hs3' (fun b hb => by cases hb) hk hown' hnb (hbl.imp_right fun h => ⟨_, h, hw2.size, fun hm => Nat.lt_irrefl _ (hw2.low hm)⟩))
/-- Two scalars appended to two lists, in any order. -/
theorem a_push2 {X : Ctx} {u U : World} {bl : List KB} {nb ow : List Nat} {V : Nat → Value} {l : Nat → List F} {p q a b c d : Nat} {s r : Value} {f g : F} (K : Value → Value → World → Prop) (hX : Std X) (hP : X.P = Tryz.prog) (hab : (a == b) = false) (hcd : (c == d) = false)
    (hR : MRows U u 29 4 encF nb 2 V l) (hs : V 0 = s) (hr : V 1 = r) (hU : X.w0.heap.size ≤ U.heap.size) (hnb : ∀ b ∈ nb, b ∈ bl.map (·.b)) (hsub : ∀ b ∈ bl.map (·.b), b ∈ nb) (ho : ∀ b ∈ ow, b ∈ nb ∧ U.heap.size ≤ b) (h0 : (l 0).length ≤ 2000) (h1 : (l 1).length ≤ 2000)
    (hK : ∀ v0 v1 w', Kn X w' → Stp [] U w' → MRows U w' 29 4 encF nb 2 (fun j => if j = 0 then v0 else v1) (fun j => if j = 0 then l 0 ++ [f] else l 1 ++ [g]) → K v0 v1 w') :
    ((AskO X u ow bl false (.buildSlice 28 1 #[(0, .tmp p)]) 28 [(p, S f.val)] fun x119 w119 => AskO X w119 [] bl true (appOp (.tmp a) (.tmp b) 28) 28 [(a, s), (b, x119)] fun x120 w120 => AskO X w120 [] bl false (.buildSlice 28 1 #[(0, .tmp q)]) 28 [(q, S g.val)] fun x121 w121 => AskO X w121 [] bl true (appOp (.tmp c) (.tmp d) 28) 28 [(c, r), (d, x121)] fun x122 w122 => Ask (rPlain x120) fun x123 => Ask (rPlain x122) fun x124 => K x123 x124 w122) ∧
     (AskO X u ow bl false (.buildSlice 28 1 #[(0, .tmp p)]) 28 [(p, S f.val)] fun x119 w119 => AskO X w119 [] bl false (.buildSlice 28 1 #[(0, .tmp q)]) 28 [(q, S g.val)] fun x120 w120 => AskO X w120 [] bl true (appOp (.tmp a) (.tmp b) 28) 28 [(a, s), (b, x119)] fun x121 w121 => AskO X w121 [] bl true (appOp (.tmp c) (.tmp d) 28) 28 [(c, r), (d, x120)] fun x122 w122 => Ask (rPlain x121) fun x123 => Ask (rPlain x122) fun x124 => K x123 x124 w122)) ∧
    (AskO X u ow bl false (.buildSlice 28 1 #[(0, .tmp q)]) 28 [(q, S g.val)] fun x119 w119 => AskO X w119 [] bl false (.buildSlice 28 1 #[(0, .tmp p)]) 28 [(p, S f.val)] fun x120 w120 => AskO X w120 [] bl true (appOp (.tmp a) (.tmp b) 28) 28 [(a, s), (b, x120)] fun x121 w121 => AskO X w121 [] bl true (appOp (.tmp c) (.tmp d) 28) 28 [(c, r), (d, x119)] fun x122 w122 => Ask (rPlain x121) fun x123 => Ask (rPlain x122) fun x124 => K x123 x124 w122) := by
  have bld : ∀ {w : World} {ow' : List Nat} {p : Nat} {f : F} {KW : Value → World → Prop}, (∀ x w', Kn X w' → Stp [] w w' ∨ Stp ow' w w' → Stp ow' w w' → (∀ g, x.ownBlock = some g → w.heap.size ≤ g) → SlAt w' x 1 ([f].flatMap encF) → KW x w') → AskO X w ow' bl false (.buildSlice 28 1 #[(0, .tmp p)]) 28 [(p, S f.val)] KW := fun {w ow' p f KW} h => by
    have el : ((#[(0, Operand.tmp p)] : Array (Nat × Operand)).map fun (i, x) => (i, argsFn [(p, S f.val)] x)).toList = [(0, S f.val)] := by simp [argsFn]
    refine a_build ([f].flatMap encF).toArray hX hP tySI (by decide) (by decide) (by
      rw [el]; kernel_rfl) rfl (by decide) fun g w0 w' hw hk hs hsu ho => ?_
    exact h _ w' hk (.inr hsu) hsu (fun g hg => Nat.le_trans hw.size (ho.lt g hg).1) (own_slAt ho)
  have fin : ∀ {w : World} {v0 v1 : Value}, Kn X w → MRows U w 29 4 encF nb 2 (upd (upd V 0 v0) 1 v1) (upd (upd l 0 (l 0 ++ [f])) 1 (upd l 0 (l 0 ++ [f]) 1 ++ [g])) → Ask (rPlain v0) fun x123 => Ask (rPlain v1) fun x124 => K x123 x124 w := fun {w v0 v1} hk hm => by
    have hm2 : MRows U w 29 4 encF nb 2 (fun j => if j = 0 then v0 else v1) (fun j => if j = 0 then l 0 ++ [f] else l 1 ++ [g]) := hm.congrV (fun j hj => by
      match j, hj with
      | 0, _ => rfl
      | 1, _ => rfl) (fun j hj => by
      match j, hj with
      | 0, _ => rfl
      | 1, _ => rfl)
    exact a_plain (own_one (hm2.row 0 (by decide))) (a_plain (own_one (hm2.row 1 (by decide))) (hK v0 v1 w hk hm2.low hm2))
  have big : ∀ {k : Nat}, k ≤ 2000 → k + 1 ≤ maxLen ∧ (k + 1) * 32 ≤ 140737488355328 := fun hk => ⟨by unfold maxLen; omega, by omega⟩
  have on : ∀ f : F, ([f].flatMap encF).all (·.oneCell') = true := fun f => by simp [one_encF]
  have out : ∀ {w : World}, Stp ow u w → MRows U w 29 4 encF nb 2 V l := fun h => hR.stpE h (fun b hb => (ho b hb).1) (fun b hb => (ho b hb).2)
  have lt0 : ∀ j, j < 2 → ∀ g', (V j).ownBlock = some g' → g' < u.heap.size := fun j hj g' hg' => ((hR.row j hj).lt g' hg').2
  have app0 : ∀ {w : World} {x : Value} {KW : Value → World → Prop}, MRows U w 29 4 encF nb 2 V l → SlAt w x 1 ([f].flatMap encF) → (∀ v' w', Kn X w' → Stp s.ownBlock.toList w w' → MRows U w' 29 4 encF nb 2 (upd V 0 v') (upd l 0 (l 0 ++ [f])) → KW v' w') → AskO X w [] bl true (appOp (.tmp a) (.tmp b) 28) 28 [(a, s), (b, x)] KW := fun hm hx h =>
    a_appR [f] 1 rfl hX hP tySI hab rfl (by decide) encF_len hm (by decide) hs hU (fun b hb => .inr (hnb b hb)) hsub hx (on f) (big h0).1 (big h0).2 h
  have app1 : ∀ {w : World} {x v0 : Value} {KW : Value → World → Prop}, MRows U w 29 4 encF nb 2 (upd V 0 v0) (upd l 0 (l 0 ++ [f])) → SlAt w x 1 ([g].flatMap encF) → (∀ v' w', Kn X w' → Stp r.ownBlock.toList w w' → MRows U w' 29 4 encF nb 2 (upd (upd V 0 v0) 1 v') (upd (upd l 0 (l 0 ++ [f])) 1 (upd l 0 (l 0 ++ [f]) 1 ++ [g])) → KW v' w') → AskO X w [] bl true (appOp (.tmp c) (.tmp d) 28) 28 [(c, r), (d, x)] KW := fun {w x v0 KW} hm hx h =>
    a_appR [g] 1 rfl hX hP tySI hcd rfl (by decide) encF_len hm (i := 1) (by decide) hr hU (fun b hb => .inr (hnb b hb)) hsub hx (on g) (big h1).1 (big h1).2 h
  have keep : ∀ {w w' : World} {y : Value} {f : F} {m : Nat}, u.heap.size ≤ m → (∀ g, y.ownBlock = some g → m ≤ g) → SlAt w y 1 ([f].flatMap encF) → Stp s.ownBlock.toList w w' → SlAt w' y 1 ([f].flatMap encF) := fun hm hy hsl hst => hsl.stp hst fun g' hg' hmem => by
    have h1 := hy g' hg'
    have h2 := lt0 0 (by decide) g' (by rw [hs]; simpa using hmem)
    omega
  refine ⟨⟨?_, ?_⟩, ?_⟩
  · refine bld fun x w1 k1 _ s1 z1 sl1 => ?_
    refine app0 (out s1) sl1 fun v0 w2 k2 s2 m2 => ?_
    refine bld fun y w3 k3 _ s3 z3 sl3 => ?_
    refine app1 (m2.stp s3) sl3 fun v1 w4 k4 s4 m4 => fin k4 m4
  · refine bld fun x w1 k1 _ s1 z1 sl1 => ?_
    refine bld fun y w2 k2 _ s2 z2 sl2 => ?_
    refine app0 ((out s1).stp s2) (sl1.stp0 s2) fun v0 w3 k3 s3 m3 => ?_
    refine app1 m3 (keep s1.size z2 sl2 s3) fun v1 w4 k4 s4 m4 => fin k4 m4
  · refine bld fun y w1 k1 _ s1 z1 sl1 => ?_
    refine bld fun x w2 k2 _ s2 z2 sl2 => ?_
    refine app0 ((out s1).stp s2) sl2 fun v0 w3 k3 s3 m3 => ?_
    refine app1 m3 (keep (Nat.le_refl _) z1 (sl1.stp0 s2) s3) fun v1 w4 k4 s4 m4 => fin k4 m4
/-- What the program's Back is asked. -/
structure BkP where
  p : SetN
  b : Int
  c : Int
  vs : List (Nat × Nat)
  y : Nat
  z : Nat
  x : Nat
  t : StN
namespace BkP
variable (q : BkP)
def fit : Nat := fitsE q.b q.c q.p.2.2.2.1.length q.p.2.2.2.2.length q.t.2.2.2.2.1.length q.t.2.2.2.2.2.length q.vs
def err : Nat := if q.fit ≠ 0 then q.fit else if zerL [q.y, q.z, q.x] = true then 4 else if rF q.p.2.1 = 0 then 61 else 0
def m : Nat := q.b.toNat
def n : Nat := q.c.toNat
def N : Nat := q.m * q.n
def bit (k : Nat) : F := bitF q.vs q.m k
def wt (k : Nat) : F := fp (rF q.z) (2 + k / q.m) * fp (rF 2) (k % q.m)
def dsl (k : Nat) : F := (rF (q.t.2.2.2.2.1.getD k 0) - q.bit k + rF q.z) * finv (rF q.x)
def dsr (k : Nat) : F := ((rF (q.t.2.2.2.2.2.getD k 0) - q.wt k) * finv (fp (rF q.y) k) - (q.bit k - 1) - rF q.z) * finv (rF q.x)
def t2 (k : Nat) : F := sumF' (fun i => q.dsl i * q.dsr i * fp (rF q.y) i) k
def blinds (j : Nat) : F := sumF' (fun j => fp (rF q.z) (2 + j) * rF (bAt q.vs j)) j
def rho : F := (rF q.t.2.2.1 - logF q.p.2.2.2.1 q.dsl q.N - logF q.p.2.2.2.2 q.dsr q.N) * finv (rF q.p.2.1)
def alpha : F := rF q.t.2.1 - q.rho * rF q.x
def tau2 : F := (rF q.t.2.2.2.1 - q.t2 q.N * rF q.p.1) * finv (rF q.p.2.1)
def tau1 : F := (rF q.t.1 - q.tau2 * (rF q.x * rF q.x) - q.blinds q.n) * finv (rF q.x)
def out : TpF := if q.err = 0 then (q.alpha, q.rho, q.tau1, q.tau2, mapN q.dsl q.N, mapN q.dsr q.N) else (0, 0, 0, 0, [], [])
theorem fams : ∃ fam : Nat → Nat → F, fam 0 = q.dsl ∧ fam 1 = q.dsr := ⟨fun j => if j = 0 then q.dsl else q.dsr, if_pos rfl, if_neg (by decide)⟩
end BkP
def cBkP : Cods BkP := ⟨fun w l d => (Cods.cons cSetN (Cods.cons cPi (Cods.cons cLO (Cods.cons cS (Cods.cons cS (Cods.cons cS (Cods.cons cStN Cods.nil))))))).rd w l (d.p, (d.b, d.c), d.vs, d.y, d.z, d.x, d.t, ()), fun w l a b h k => by
  have := Cods.inj _ _ _ _ _ h k
  simp only [Prod.mk.injEq, and_true] at this
  obtain ⟨h1, ⟨h2, h3⟩, h4, h5, h6, h7, h8⟩ := this
  obtain ⟨⟩ := a; obtain ⟨⟩ := b
  simp only at h1 h2 h3 h4 h5 h6 h7 h8
  subst h1 h2 h3 h4 h5 h6 h7 h8
  rfl⟩
def cBack : Contract := fnW cBkP (fun _ _ => True) (fun q w v w' => ∃ u, v = .tuple #[u, J q.err] ∧ TpOwn w.heap.size w' u q.out)
def Tpb : Table := ((((((((((((((((T0.add 42 cAllowed).add 23 cSize).add 47 cInv).add 30 cqIsZ).add 28 cRInt).add 29 cqAdd).add 48 cqSub).add 49 cqMul).add 43 cEn).add 44 cFt).add 45 cZo).add 46 cWgh).add 50 cLog).add 96 cW1).add 97 cW2).add 98 cW3)
theorem keepTpb : AllKeep Tryz.prog GT Tpb := ((((((((((((((((keepT0.add keepsAllowed).add keepsSize).add keepsInv).add keepsqIsZ).add keepsSInt).add keepsqAdd).add keepsqSub).add keepsqMul).add keepsEn).add keepsFt).add keepsZo).add keepsWgh).add keepsLog).add keepsW1).add keepsW2).add keepsW3)
section
variable {X : Ctx} {K : Value → Prop} (hS : X.S = Tpb.spec)
include hS
theorem p_Mul {a b : Nat} {c d : F} (ha : a < W256) (hb : b < W256) (ec : rF a = c) (ed : rF b = d) (hK : K (S (c * d).val)) : AskF X 49 [S a, S b] K := call_PE hS (T := Tpb) (f := 49) rfl (a, b) ⟨ha, hb⟩ (by subst ec ed; exact hK)
theorem p_Sub {a b : Nat} {c d : F} (ha : a < W256) (hb : b < W256) (ec : rF a = c) (ed : rF b = d) (hK : K (S (c - d).val)) : AskF X 48 [S a, S b] K := call_PE hS (T := Tpb) (f := 48) rfl (a, b) ⟨ha, hb⟩ (by subst ec ed; exact hK)
theorem p_Add {a b : Nat} {c d : F} (ha : a < W256) (hb : b < W256) (ec : rF a = c) (ed : rF b = d) (hK : K (S (c + d).val)) : AskF X 29 [S a, S b] K := call_PE hS (T := Tpb) (f := 29) rfl (a, b) ⟨ha, hb⟩ (by subst ec ed; exact hK)
theorem p_Inv {a : Nat} {c : F} (ha : a < W256) (ec : rF a = c) (hK : K (S (finv c).val)) : AskF X 47 [S a] K := call_PE hS (T := Tpb) (f := 47) rfl a ha (by subst ec; exact hK)
end
def ann8 : Ann := ⟨[(16, ([93], [10, 11])), (25, ([171], [12]))], [42, 23, 47, 30, 28, 29, 48, 49], 70, [(43, false), (44, false), (45, false), (46, false), (50, false)], [10, 11, 12, 17, 18, 20, 21, 23, 24, 25], some false, [], []⟩
def kb8_0 (b0 b1 b2 b3 b4 b5 b6 : Nat) (x10 x11 x12 x13 x14 x15 x16 x17 x18 x19 x20 x21 x22 x23 x1 x2 x24 x25 x26 x27 : Value) : List KB := [⟨b0, true, 42, #[x10, x11, x12, x13, x14, x15, x16, x17, x18, x19, x20, x21, x22, x23]⟩, ⟨b1, true, 45, #[x1, x2]⟩, ⟨b2, true, 29, (aggArr x24)⟩, ⟨b3, true, 29, (aggArr x25)⟩, ⟨b4, true, 29, (aggArr x26)⟩, ⟨b5, true, 33, (aggArr x27)⟩, ⟨b6, true, 36, #[(U 0), (U 0), (U 0), (U 0), (U 0), (U 0), (U 0), (U 0), (U 0), (U 0), (U 0), (U 0), (U 0), (U 0), (U 0), (U 0), (.slice none 0 0), (.slice none 0 0)]⟩]
def kb8_1 (b0 b1 b2 b3 b4 b5 b6 b7 b8 b9 b10 b11 b12 : Nat) (x10 x11 x12 x13 x14 x15 x16 x17 x18 x19 x20 x21 x22 x23 x1 x2 x24 x25 x26 x27 x52 x53 x54 x59 x60 x61 x62 : Value) : List KB := [⟨b0, true, 42, #[x10, x11, x12, x13, x14, x15, x16, x17, x18, x19, x20, x21, x22, x23]⟩, ⟨b1, true, 45, #[x1, x2]⟩, ⟨b2, true, 29, (aggArr x24)⟩, ⟨b3, true, 29, (aggArr x25)⟩, ⟨b4, true, 29, (aggArr x26)⟩, ⟨b5, true, 33, (aggArr x27)⟩, ⟨b6, true, 36, #[(U 0), (U 0), (U 0), (U 0), (U 0), (U 0), (U 0), (U 0), (U 0), (U 0), (U 0), (U 0), (U 0), (U 0), (U 0), (U 0), (.slice none 0 0), (.slice none 0 0)]⟩, ⟨b7, true, 112, #[x52, x53, x54]⟩, ⟨b8, true, 29, (aggArr x59)⟩, ⟨b9, true, 29, (aggArr x60)⟩, ⟨b10, true, 36, #[(U 0), (U 0), (U 0), (U 0), (U 0), (U 0), (U 0), (U 0), (U 0), (U 0), (U 0), (U 0), (U 0), (U 0), (U 0), (U 0), (.slice none 0 0), (.slice none 0 0)]⟩, ⟨b11, true, 29, (aggArr x61)⟩, ⟨b12, true, 29, (aggArr x62)⟩]
def kb8_2 (b0 b1 b2 b3 b4 b5 b6 b7 b8 b9 b10 b11 b12 b13 b14 : Nat) (x10 x11 x12 x13 x14 x15 x16 x17 x18 x19 x20 x21 x22 x23 x1 x2 x24 x25 x26 x27 x52 x53 x54 x59 x60 x65 x66 x67 x68 x69 x70 x71 x72 x73 x74 x75 x76 x77 x78 x79 x80 x81 x82 x83 x62 x95 x103 : Value) : List KB := [⟨b0, true, 42, #[x10, x11, x12, x13, x14, x15, x16, x17, x18, x19, x20, x21, x22, x23]⟩, ⟨b1, true, 45, #[x1, x2]⟩, ⟨b2, true, 29, (aggArr x24)⟩, ⟨b3, true, 29, (aggArr x25)⟩, ⟨b4, true, 29, (aggArr x26)⟩, ⟨b5, true, 33, (aggArr x27)⟩, ⟨b6, true, 36, #[(U 0), (U 0), (U 0), (U 0), (U 0), (U 0), (U 0), (U 0), (U 0), (U 0), (U 0), (U 0), (U 0), (U 0), (U 0), (U 0), (.slice none 0 0), (.slice none 0 0)]⟩, ⟨b7, true, 112, #[x52, x53, x54]⟩, ⟨b8, true, 29, (aggArr x59)⟩, ⟨b9, true, 29, (aggArr x60)⟩, ⟨b10, true, 36, #[x65, x66, x67, x68, x69, x70, x71, x72, x73, x74, x75, x76, x77, x78, x79, x80, x81, x82]⟩, ⟨b11, true, 29, (aggArr x83)⟩, ⟨b12, true, 29, (aggArr x62)⟩, ⟨b13, true, 29, (aggArr x95)⟩, ⟨b14, true, 29, (aggArr x103)⟩]
def kb8_3 (b0 b1 b2 b3 b4 b5 b6 b7 b8 b9 b10 b11 b12 b13 b14 b15 : Nat) (x10 x11 x12 x13 x14 x15 x16 x17 x18 x19 x20 x21 x22 x23 x1 x2 x24 x25 x26 x27 x52 x53 x54 x59 x60 x65 x66 x67 x68 x69 x70 x71 x72 x73 x74 x75 x76 x77 x78 x79 x80 x81 x82 x83 x62 x95 x103 x118 : Value) : List KB := [⟨b0, true, 42, #[x10, x11, x12, x13, x14, x15, x16, x17, x18, x19, x20, x21, x22, x23]⟩, ⟨b1, true, 45, #[x1, x2]⟩, ⟨b2, true, 29, (aggArr x24)⟩, ⟨b3, true, 29, (aggArr x25)⟩, ⟨b4, true, 29, (aggArr x26)⟩, ⟨b5, true, 33, (aggArr x27)⟩, ⟨b6, true, 36, #[(U 0), (U 0), (U 0), (U 0), (U 0), (U 0), (U 0), (U 0), (U 0), (U 0), (U 0), (U 0), (U 0), (U 0), (U 0), (U 0), (.slice none 0 0), (.slice none 0 0)]⟩, ⟨b7, true, 112, #[x52, x53, x54]⟩, ⟨b8, true, 29, (aggArr x59)⟩, ⟨b9, true, 29, (aggArr x60)⟩, ⟨b10, true, 36, #[x65, x66, x67, x68, x69, x70, x71, x72, x73, x74, x75, x76, x77, x78, x79, x80, x81, x82]⟩, ⟨b11, true, 29, (aggArr x83)⟩, ⟨b12, true, 29, (aggArr x62)⟩, ⟨b13, true, 29, (aggArr x95)⟩, ⟨b14, true, 29, (aggArr x103)⟩, ⟨b15, true, 29, (aggArr x118)⟩]
def kb8_4 (b0 b1 b2 b3 b4 b5 b6 b7 b8 b9 b10 b11 b12 b13 b14 b15 : Nat) (x10 x11 x12 x13 x14 x15 x16 x17 x18 x19 x20 x21 x22 x23 x1 x2 x24 x25 x26 x27 x52 x53 x54 x59 x60 x65 x66 x67 x68 x69 x70 x71 x72 x73 x74 x75 x76 x77 x78 x79 x80 x123 x124 x83 x62 x95 x103 x118 : Value) : List KB := [⟨b0, true, 42, #[x10, x11, x12, x13, x14, x15, x16, x17, x18, x19, x20, x21, x22, x23]⟩, ⟨b1, true, 45, #[x1, x2]⟩, ⟨b2, true, 29, (aggArr x24)⟩, ⟨b3, true, 29, (aggArr x25)⟩, ⟨b4, true, 29, (aggArr x26)⟩, ⟨b5, true, 33, (aggArr x27)⟩, ⟨b6, true, 36, #[(U 0), (U 0), (U 0), (U 0), (U 0), (U 0), (U 0), (U 0), (U 0), (U 0), (U 0), (U 0), (U 0), (U 0), (U 0), (U 0), (.slice none 0 0), (.slice none 0 0)]⟩, ⟨b7, true, 112, #[x52, x53, x54]⟩, ⟨b8, true, 29, (aggArr x59)⟩, ⟨b9, true, 29, (aggArr x60)⟩, ⟨b10, true, 36, #[x65, x66, x67, x68, x69, x70, x71, x72, x73, x74, x75, x76, x77, x78, x79, x80, x123, x124]⟩, ⟨b11, true, 29, (aggArr x83)⟩, ⟨b12, true, 29, (aggArr x62)⟩, ⟨b13, true, 29, (aggArr x95)⟩, ⟨b14, true, 29, (aggArr x103)⟩, ⟨b15, true, 29, (aggArr x118)⟩]
def kb8_5 (b0 b1 b2 b3 b4 b5 b6 b7 b8 b9 b10 b11 b12 : Nat) (x10 x11 x12 x13 x14 x15 x16 x17 x18 x19 x20 x21 x22 x23 x1 x2 x24 x25 x26 x27 x52 x53 x54 x59 x60 x65 x66 x67 x68 x69 x70 x71 x72 x73 x74 x75 x76 x77 x78 x79 x80 x81 x82 x83 x62 : Value) : List KB := [⟨b0, true, 42, #[x10, x11, x12, x13, x14, x15, x16, x17, x18, x19, x20, x21, x22, x23]⟩, ⟨b1, true, 45, #[x1, x2]⟩, ⟨b2, true, 29, (aggArr x24)⟩, ⟨b3, true, 29, (aggArr x25)⟩, ⟨b4, true, 29, (aggArr x26)⟩, ⟨b5, true, 33, (aggArr x27)⟩, ⟨b6, true, 36, #[(U 0), (U 0), (U 0), (U 0), (U 0), (U 0), (U 0), (U 0), (U 0), (U 0), (U 0), (U 0), (U 0), (U 0), (U 0), (U 0), (.slice none 0 0), (.slice none 0 0)]⟩, ⟨b7, true, 112, #[x52, x53, x54]⟩, ⟨b8, true, 29, (aggArr x59)⟩, ⟨b9, true, 29, (aggArr x60)⟩, ⟨b10, true, 36, #[x65, x66, x67, x68, x69, x70, x71, x72, x73, x74, x75, x76, x77, x78, x79, x80, x81, x82]⟩, ⟨b11, true, 29, (aggArr x83)⟩, ⟨b12, true, 29, (aggArr x62)⟩]
def kb8_6 (b0 b1 b2 b3 b4 b5 b6 b7 b8 b9 b10 b11 b12 b13 : Nat) (x10 x11 x12 x13 x14 x15 x16 x17 x18 x19 x20 x21 x22 x23 x1 x2 x24 x25 x26 x27 x52 x53 x54 x59 x60 x65 x66 x67 x68 x69 x70 x71 x72 x73 x74 x75 x76 x77 x78 x79 x80 x81 x82 x83 x88 x94 x95 x96 x97 x98 : Value) : List KB := [⟨b0, true, 42, #[x10, x11, x12, x13, x14, x15, x16, x17, x18, x19, x20, x21, x22, x23]⟩, ⟨b1, true, 45, #[x1, x2]⟩, ⟨b2, true, 29, (aggArr x24)⟩, ⟨b3, true, 29, (aggArr x25)⟩, ⟨b4, true, 29, (aggArr x26)⟩, ⟨b5, true, 33, (aggArr x27)⟩, ⟨b6, true, 36, #[(U 0), (U 0), (U 0), (U 0), (U 0), (U 0), (U 0), (U 0), (U 0), (U 0), (U 0), (U 0), (U 0), (U 0), (U 0), (U 0), (.slice none 0 0), (.slice none 0 0)]⟩, ⟨b7, true, 112, #[x52, x53, x54]⟩, ⟨b8, true, 29, (aggArr x59)⟩, ⟨b9, true, 29, (aggArr x60)⟩, ⟨b10, true, 36, #[x65, x66, x67, x68, x69, x70, x71, x72, x73, x74, x75, x76, x77, x78, x79, x80, x81, x82]⟩, ⟨b11, true, 29, (aggArr x83)⟩, ⟨b12, true, 29, (aggArr x88)⟩, ⟨b13, true, 116, #[x94, x95, x96, x97, x98]⟩]
def kb8_7 (b0 b1 b2 b3 b4 b5 b6 b7 b8 b9 b10 b11 b12 : Nat) (x10 x11 x12 x13 x14 x15 x16 x17 x18 x19 x20 x21 x22 x23 x1 x2 x24 x25 x26 x27 x52 x53 x54 x59 x60 x65 x66 x67 x68 x69 x70 x71 x72 x73 x74 x75 x76 x77 x78 x79 x80 x81 x82 x83 x88 : Value) : List KB := [⟨b0, true, 42, #[x10, x11, x12, x13, x14, x15, x16, x17, x18, x19, x20, x21, x22, x23]⟩, ⟨b1, true, 45, #[x1, x2]⟩, ⟨b2, true, 29, (aggArr x24)⟩, ⟨b3, true, 29, (aggArr x25)⟩, ⟨b4, true, 29, (aggArr x26)⟩, ⟨b5, true, 33, (aggArr x27)⟩, ⟨b6, true, 36, #[(U 0), (U 0), (U 0), (U 0), (U 0), (U 0), (U 0), (U 0), (U 0), (U 0), (U 0), (U 0), (U 0), (U 0), (U 0), (U 0), (.slice none 0 0), (.slice none 0 0)]⟩, ⟨b7, true, 112, #[x52, x53, x54]⟩, ⟨b8, true, 29, (aggArr x59)⟩, ⟨b9, true, 29, (aggArr x60)⟩, ⟨b10, true, 36, #[x65, x66, x67, x68, x69, x70, x71, x72, x73, x74, x75, x76, x77, x78, x79, x80, x81, x82]⟩, ⟨b11, true, 29, (aggArr x83)⟩, ⟨b12, true, 29, (aggArr x88)⟩]
theorem vc8 (X : Ctx) (β : Nat → Nat) (x0 x1 x2 x3 x4 x5 x6 x7 : Value) : (run Tryz.prog ann8 8 [.x (.v 0), .l [.v 1, .v 2], .x (.v 3), .x (.v 4), .x (.v 5), .x (.v 6), .x (.v 7)] [] [] 9).den X (env0 [x0, x1, x2, x3, x4, x5, x6, x7] X.w0) 9 β 0 (fun _ _ _ => False) = (
 Ask (rAgg 14 x0) fun x9 =>
 Ask (rSel (aggArr x9) 0 1 false) fun x10 =>
 Ask (rSel (aggArr x9) 1 1 false) fun x11 =>
 Ask (rSel (aggArr x9) 2 1 false) fun x12 =>
 Ask (rSel (aggArr x9) 3 1 false) fun x13 =>
 Ask (rSel (aggArr x9) 4 1 false) fun x14 =>
 Ask (rSel (aggArr x9) 5 1 false) fun x15 =>
 Ask (rSel (aggArr x9) 6 1 false) fun x16 =>
 Ask (rSel (aggArr x9) 7 1 false) fun x17 =>
 Ask (rSel (aggArr x9) 8 1 false) fun x18 =>
 Ask (rSel (aggArr x9) 9 1 false) fun x19 =>
 Ask (rSel (aggArr x9) 10 1 false) fun x20 =>
 Ask (rSel (aggArr x9) 11 1 false) fun x21 =>
 Ask (rSel (aggArr x9) 12 1 false) fun x22 =>
 Ask (rSel (aggArr x9) 13 1 false) fun x23 =>
 AskNew X.w0 fun b0 =>
 AskNew X.w0 fun b1 =>
 Ask (rAgg 4 x4) fun x24 =>
 AskNew X.w0 fun b2 =>
 Ask (rAgg 4 x5) fun x25 =>
 AskNew X.w0 fun b3 =>
 Ask (rAgg 4 x6) fun x26 =>
 AskNew X.w0 fun b4 =>
 Ask (rAgg 18 x7) fun x27 =>
 AskNew X.w0 fun b5 =>
 AskNew X.w0 fun b6 =>
 AskF X 42 [(.agg #[x1, x2])] fun x28 =>
 Ask (rUn X.P .not x28) fun x29 =>
 (∃ t, x29 = .bool t) ∧ (x29 = .bool true →
 Ret X X.w0 [b6] [] (.tuple #[(.agg #[(U 0), (U 0), (U 0), (U 0), (U 0), (U 0), (U 0), (U 0), (U 0), (U 0), (U 0), (U 0), (U 0), (U 0), (U 0), (U 0), (.slice none 0 0), (.slice none 0 0)]), (J 130)])) ∧ (x29 = .bool false →
 AskW X X.w0 [] (kb8_0 b0 b1 b2 b3 b4 b5 b6 x10 x11 x12 x13 x14 x15 x16 x17 x18 x19 x20 x21 x22 x23 x1 x2 x24 x25 x26 x27) false 43 [(.agg #[x10, x11, x12, x13, x14, x15, x16, x17, x18, x19, x20, x21, x22, x23]), (.agg #[x1, x2])] fun x30 w30 =>
 Ask (rUn X.P .not x30) fun x31 =>
 AskG [(x31, false)] (rLen X.P 47 x3) fun x32 =>
 AskG [(x31, false)] (rBin X.P .neq 3 false false x32 x2) fun x33 =>
 Ask (rPick x31 (.bool true) x33) fun x34 =>
 AskG [(x34, false)] (rSel (aggArr x27) 0 1 false) fun x35 =>
 AskG [(x34, false)] (rLen X.P 28 x35) fun x36 =>
 AskGF X [(x34, false)] 23 [(.agg #[x1, x2])] fun x37 =>
 AskG [(x34, false)] (rBin X.P .neq 3 false false x36 x37) fun x38 =>
 Ask (rPick x34 (.bool true) x38) fun x39 =>
 AskG [(x39, false)] (rSel (aggArr x27) 1 1 false) fun x40 =>
 AskG [(x39, false)] (rLen X.P 28 x40) fun x41 =>
 AskGF X [(x39, false)] 23 [(.agg #[x1, x2])] fun x42 =>
 AskG [(x39, false)] (rBin X.P .neq 3 false false x41 x42) fun x43 =>
 Ask (rPick x39 (.bool true) x43) fun x44 =>
 (∃ t, x44 = .bool t) ∧ (x44 = .bool true →
 Ret X w30 [b6] [] (.tuple #[(.agg #[(U 0), (U 0), (U 0), (U 0), (U 0), (U 0), (U 0), (U 0), (U 0), (U 0), (U 0), (U 0), (U 0), (U 0), (U 0), (U 0), (.slice none 0 0), (.slice none 0 0)]), (J 2)])) ∧ (x44 = .bool false →
 AskW X w30 [] (kb8_0 b0 b1 b2 b3 b4 b5 b6 x10 x11 x12 x13 x14 x15 x16 x17 x18 x19 x20 x21 x22 x23 x1 x2 x24 x25 x26 x27) false 44 [(.agg #[x1, x2]), x3] fun x45 w45 =>
 Ask (rUn X.P .not x45) fun x46 =>
 (∃ t, x46 = .bool t) ∧ (x46 = .bool true →
 Ret X w45 [b6] [] (.tuple #[(.agg #[(U 0), (U 0), (U 0), (U 0), (U 0), (U 0), (U 0), (U 0), (U 0), (U 0), (U 0), (U 0), (U 0), (U 0), (U 0), (U 0), (.slice none 0 0), (.slice none 0 0)]), (J 131)])) ∧ (x46 = .bool false →
 AskO X w45 [] (kb8_0 b0 b1 b2 b3 b4 b5 b6 x10 x11 x12 x13 x14 x15 x16 x17 x18 x19 x20 x21 x22 x23 x1 x2 x24 x25 x26 x27) false (Op.buildSlice 28 3 #[(0, Operand.tmp 69), (1, Operand.tmp 70), (2, Operand.tmp 71)]) 28 [(69, x24), (70, x25), (71, x26)] fun x47 w47 =>
 AskW X w47 [] (kb8_0 b0 b1 b2 b3 b4 b5 b6 x10 x11 x12 x13 x14 x15 x16 x17 x18 x19 x20 x21 x22 x23 x1 x2 x24 x25 x26 x27) false 45 [x47] fun x48 w48 =>
 (∃ t, x48 = .bool t) ∧ (x48 = .bool true →
 Ret X w48 [b6] [] (.tuple #[(.agg #[(U 0), (U 0), (U 0), (U 0), (U 0), (U 0), (U 0), (U 0), (U 0), (U 0), (U 0), (U 0), (U 0), (U 0), (U 0), (U 0), (.slice none 0 0), (.slice none 0 0)]), (J 4)])) ∧ (x48 = .bool false →
 AskF X 30 [(.agg #[x14, x15, x16, x17])] fun x49 =>
 (∃ t, x49 = .bool t) ∧ (x49 = .bool true →
 Ret X w48 [b6] [] (.tuple #[(.agg #[(U 0), (U 0), (U 0), (U 0), (U 0), (U 0), (U 0), (U 0), (U 0), (U 0), (U 0), (U 0), (U 0), (U 0), (U 0), (U 0), (.slice none 0 0), (.slice none 0 0)]), (J 61)])) ∧ (x49 = .bool false →
 AskW X w48 [] (kb8_0 b0 b1 b2 b3 b4 b5 b6 x10 x11 x12 x13 x14 x15 x16 x17 x18 x19 x20 x21 x22 x23 x1 x2 x24 x25 x26 x27) false 46 [(.agg #[x1, x2]), x24, x25] fun x50 w50 =>
 AskNew w50 fun b7 =>
 Ask (rAgg 3 x50) fun x51 =>
 Ask (rSel (aggArr x51) 0 1 false) fun x52 =>
 Ask (rSel (aggArr x51) 1 1 false) fun x53 =>
 Ask (rSel (aggArr x51) 2 1 false) fun x54 =>
 AskF X 47 [x26] fun x55 =>
 AskF X 47 [(.agg #[x14, x15, x16, x17])] fun x56 =>
 Ask (rAgg 4 (.agg #[(U 0), (U 0), (U 0), (U 0)])) fun _ =>
 AskNew w50 fun b8 =>
 Ask (rAgg 4 (.agg #[(U 0), (U 0), (U 0), (U 0)])) fun _ =>
 AskNew w50 fun b9 =>
 Ask (rAgg 4 x55) fun x59 =>
 Ask (rAgg 4 x56) fun x60 =>
 AskNew w50 fun b10 =>
 Ask (rAgg 4 (.agg #[(U 0), (U 0), (U 0), (U 0)])) fun x61 =>
 AskNew w50 fun b11 =>
 Ask (rAgg 4 (.agg #[(U 0), (U 0), (U 0), (U 0)])) fun x62 =>
 AskNew w50 fun b12 =>
 AskF X 23 [(.agg #[x1, x2])] fun x63 =>
 ∃ (I0 : List Value → World → Prop) (μ0 : List Value → World → Nat), (∀ w, KnownV X w50 [b9, b8, b7] (kb8_1 b0 b1 b2 b3 b4 b5 b6 b7 b8 b9 b10 b11 b12 x10 x11 x12 x13 x14 x15 x16 x17 x18 x19 x20 x21 x22 x23 x1 x2 x24 x25 x26 x27 x52 x53 x54 x59 x60 x61 x62) w → I0 [(J 0), (U 0), (U 0), (U 0), (U 0), (U 0), (U 0), (U 0), (U 0), (U 0), (U 0), (U 0), (U 0), (U 0), (U 0), (U 0), (U 0), (.slice none 0 0), (.slice none 0 0), x61] w) ∧ ∀ x64 x65 x66 x67 x68 x69 x70 x71 x72 x73 x74 x75 x76 x77 x78 x79 x80 x81 x82 x83 w84, I0 [x64, x65, x66, x67, x68, x69, x70, x71, x72, x73, x74, x75, x76, x77, x78, x79, x80, x81, x82, x83] w84 →
 Ask (rBin X.P .lss 3 false false x64 x63) fun x85 =>
 (∃ t, x85 = .bool t) ∧ (x85 = .bool true →
 Ask (rBin X.P .quo 3 false false x64 x1) fun x86 =>
 Ask (rIad X.P 47 x3 x86) fun x87 =>
 Ask (rFad X.P 116 x87 0) fun x88 =>
 Ask (rLoad X w84 [] 22 x88) fun x89 =>
 Ask (rBin X.P .rem 3 false false x64 x1) fun x90 =>
 Ask (rBin X.P .shr 22 false false x89 x90) fun x91 =>
 Ask (rBin X.P .and 22 false true x91 (U 1)) fun x92 =>
 AskF X 28 [x92] fun x93 =>
 Ask (rAgg 4 (.agg #[(U 0), (U 0), (U 0), (U 0)])) fun _ =>
 AskNew w84 fun b13 =>
 Ask (rAgg 4 x93) fun x95 =>
 Ask (rSel (aggArr x27) 0 1 false) fun x96 =>
 Ask (rIad X.P 28 x96 x64) fun x97 =>
 Ask (rLoad X w84 [b13] 29 x97) fun x98 =>
 AskF X 48 [x98, x95] fun x99 =>
 AskF X 29 [x99, x25] fun x100 =>
 AskF X 49 [x100, x59] fun x101 =>
 Ask (rAgg 4 (.agg #[(U 0), (U 0), (U 0), (U 0)])) fun _ =>
 AskNew w84 fun b14 =>
 Ask (rAgg 4 x101) fun x103 =>
 Ask (rSel (aggArr x27) 1 1 false) fun x104 =>
 Ask (rIad X.P 28 x104 x64) fun x105 =>
 Ask (rLoad X w84 [b14, b13] 29 x105) fun x106 =>
 AskV X w84 [b14, b13] (kb8_2 b0 b1 b2 b3 b4 b5 b6 b7 b8 b9 b10 b11 b12 b13 b14 x10 x11 x12 x13 x14 x15 x16 x17 x18 x19 x20 x21 x22 x23 x1 x2 x24 x25 x26 x27 x52 x53 x54 x59 x60 x65 x66 x67 x68 x69 x70 x71 x72 x73 x74 x75 x76 x77 x78 x79 x80 x81 x82 x83 x62 x95 x103) false x53 [x64] fun x107 w107 =>
 AskF X 48 [x106, x107] fun x108 =>
 AskV X w107 [] (kb8_2 b0 b1 b2 b3 b4 b5 b6 b7 b8 b9 b10 b11 b12 b13 b14 x10 x11 x12 x13 x14 x15 x16 x17 x18 x19 x20 x21 x22 x23 x1 x2 x24 x25 x26 x27 x52 x53 x54 x59 x60 x65 x66 x67 x68 x69 x70 x71 x72 x73 x74 x75 x76 x77 x78 x79 x80 x81 x82 x83 x62 x95 x103) false x52 [x64] fun x109 w109 =>
 AskF X 47 [x109] fun x110 =>
 AskF X 49 [x108, x110] fun x111 =>
 AskF X 28 [(U 1)] fun x112 =>
 AskF X 48 [x95, x112] fun x113 =>
 AskF X 48 [x111, x113] fun x114 =>
 AskF X 48 [x114, x25] fun x115 =>
 AskF X 49 [x115, x59] fun x116 =>
 Ask (rAgg 4 (.agg #[(U 0), (U 0), (U 0), (U 0)])) fun _ =>
 AskNew w84 fun b15 =>
 Ask (rAgg 4 x116) fun x118 =>
 ((
 ((
 AskO X w109 [b15] (kb8_3 b0 b1 b2 b3 b4 b5 b6 b7 b8 b9 b10 b11 b12 b13 b14 b15 x10 x11 x12 x13 x14 x15 x16 x17 x18 x19 x20 x21 x22 x23 x1 x2 x24 x25 x26 x27 x52 x53 x54 x59 x60 x65 x66 x67 x68 x69 x70 x71 x72 x73 x74 x75 x76 x77 x78 x79 x80 x81 x82 x83 x62 x95 x103 x118) false (Op.buildSlice 28 1 #[(0, Operand.tmp 148)]) 28 [(148, x103)] fun x119 w119 =>
 AskO X w119 [] (kb8_3 b0 b1 b2 b3 b4 b5 b6 b7 b8 b9 b10 b11 b12 b13 b14 b15 x10 x11 x12 x13 x14 x15 x16 x17 x18 x19 x20 x21 x22 x23 x1 x2 x24 x25 x26 x27 x52 x53 x54 x59 x60 x65 x66 x67 x68 x69 x70 x71 x72 x73 x74 x75 x76 x77 x78 x79 x80 x81 x82 x83 x62 x95 x103 x118) true (appOp (.tmp 147) (.tmp 149) 28) 28 [(147, x81), (149, x119)] fun x120 w120 =>
 AskO X w120 [] (kb8_3 b0 b1 b2 b3 b4 b5 b6 b7 b8 b9 b10 b11 b12 b13 b14 b15 x10 x11 x12 x13 x14 x15 x16 x17 x18 x19 x20 x21 x22 x23 x1 x2 x24 x25 x26 x27 x52 x53 x54 x59 x60 x65 x66 x67 x68 x69 x70 x71 x72 x73 x74 x75 x76 x77 x78 x79 x80 x81 x82 x83 x62 x95 x103 x118) false (Op.buildSlice 28 1 #[(0, Operand.tmp 153)]) 28 [(153, x118)] fun x121 w121 =>
 AskO X w121 [] (kb8_3 b0 b1 b2 b3 b4 b5 b6 b7 b8 b9 b10 b11 b12 b13 b14 b15 x10 x11 x12 x13 x14 x15 x16 x17 x18 x19 x20 x21 x22 x23 x1 x2 x24 x25 x26 x27 x52 x53 x54 x59 x60 x65 x66 x67 x68 x69 x70 x71 x72 x73 x74 x75 x76 x77 x78 x79 x80 x81 x82 x83 x62 x95 x103 x118) true (appOp (.tmp 152) (.tmp 154) 28) 28 [(152, x82), (154, x121)] fun x122 w122 =>
 Ask (rPlain x120) fun x123 =>
 Ask (rPlain x122) fun x124 =>
 AskF X 49 [x103, x118] fun x125 =>
 AskV X w122 [b10, b10] (kb8_4 b0 b1 b2 b3 b4 b5 b6 b7 b8 b9 b10 b11 b12 b13 b14 b15 x10 x11 x12 x13 x14 x15 x16 x17 x18 x19 x20 x21 x22 x23 x1 x2 x24 x25 x26 x27 x52 x53 x54 x59 x60 x65 x66 x67 x68 x69 x70 x71 x72 x73 x74 x75 x76 x77 x78 x79 x80 x123 x124 x83 x62 x95 x103 x118) false x52 [x64] fun x126 w126 =>
 AskF X 49 [x125, x126] fun x127 =>
 AskF X 29 [x83, x127] fun x128 =>
 Ask (rAgg 4 x128) fun x129 =>
 Ask (rBin X.P .add 3 false true x64 (J 1)) fun x130 =>
 Again X w126 [b11] [] fun w => I0 [x130, x65, x66, x67, x68, x69, x70, x71, x72, x73, x74, x75, x76, x77, x78, x79, x80, x123, x124, x129] w ∧ μ0 [x130, x65, x66, x67, x68, x69, x70, x71, x72, x73, x74, x75, x76, x77, x78, x79, x80, x123, x124, x129] w < μ0 [x64, x65, x66, x67, x68, x69, x70, x71, x72, x73, x74, x75, x76, x77, x78, x79, x80, x81, x82, x83] w84) ∧ (
 AskO X w109 [b15] (kb8_3 b0 b1 b2 b3 b4 b5 b6 b7 b8 b9 b10 b11 b12 b13 b14 b15 x10 x11 x12 x13 x14 x15 x16 x17 x18 x19 x20 x21 x22 x23 x1 x2 x24 x25 x26 x27 x52 x53 x54 x59 x60 x65 x66 x67 x68 x69 x70 x71 x72 x73 x74 x75 x76 x77 x78 x79 x80 x81 x82 x83 x62 x95 x103 x118) false (Op.buildSlice 28 1 #[(0, Operand.tmp 148)]) 28 [(148, x103)] fun x119 w119 =>
 AskO X w119 [] (kb8_3 b0 b1 b2 b3 b4 b5 b6 b7 b8 b9 b10 b11 b12 b13 b14 b15 x10 x11 x12 x13 x14 x15 x16 x17 x18 x19 x20 x21 x22 x23 x1 x2 x24 x25 x26 x27 x52 x53 x54 x59 x60 x65 x66 x67 x68 x69 x70 x71 x72 x73 x74 x75 x76 x77 x78 x79 x80 x81 x82 x83 x62 x95 x103 x118) false (Op.buildSlice 28 1 #[(0, Operand.tmp 153)]) 28 [(153, x118)] fun x120 w120 =>
 AskO X w120 [] (kb8_3 b0 b1 b2 b3 b4 b5 b6 b7 b8 b9 b10 b11 b12 b13 b14 b15 x10 x11 x12 x13 x14 x15 x16 x17 x18 x19 x20 x21 x22 x23 x1 x2 x24 x25 x26 x27 x52 x53 x54 x59 x60 x65 x66 x67 x68 x69 x70 x71 x72 x73 x74 x75 x76 x77 x78 x79 x80 x81 x82 x83 x62 x95 x103 x118) true (appOp (.tmp 147) (.tmp 149) 28) 28 [(147, x81), (149, x119)] fun x121 w121 =>
 AskO X w121 [] (kb8_3 b0 b1 b2 b3 b4 b5 b6 b7 b8 b9 b10 b11 b12 b13 b14 b15 x10 x11 x12 x13 x14 x15 x16 x17 x18 x19 x20 x21 x22 x23 x1 x2 x24 x25 x26 x27 x52 x53 x54 x59 x60 x65 x66 x67 x68 x69 x70 x71 x72 x73 x74 x75 x76 x77 x78 x79 x80 x81 x82 x83 x62 x95 x103 x118) true (appOp (.tmp 152) (.tmp 154) 28) 28 [(152, x82), (154, x120)] fun x122 w122 =>
 Ask (rPlain x121) fun x123 =>
 Ask (rPlain x122) fun x124 =>
 AskF X 49 [x103, x118] fun x125 =>
 AskV X w122 [b10, b10] (kb8_4 b0 b1 b2 b3 b4 b5 b6 b7 b8 b9 b10 b11 b12 b13 b14 b15 x10 x11 x12 x13 x14 x15 x16 x17 x18 x19 x20 x21 x22 x23 x1 x2 x24 x25 x26 x27 x52 x53 x54 x59 x60 x65 x66 x67 x68 x69 x70 x71 x72 x73 x74 x75 x76 x77 x78 x79 x80 x123 x124 x83 x62 x95 x103 x118) false x52 [x64] fun x126 w126 =>
 AskF X 49 [x125, x126] fun x127 =>
 AskF X 29 [x83, x127] fun x128 =>
 Ask (rAgg 4 x128) fun x129 =>
 Ask (rBin X.P .add 3 false true x64 (J 1)) fun x130 =>
 Again X w126 [b11] [] fun w => I0 [x130, x65, x66, x67, x68, x69, x70, x71, x72, x73, x74, x75, x76, x77, x78, x79, x80, x123, x124, x129] w ∧ μ0 [x130, x65, x66, x67, x68, x69, x70, x71, x72, x73, x74, x75, x76, x77, x78, x79, x80, x123, x124, x129] w < μ0 [x64, x65, x66, x67, x68, x69, x70, x71, x72, x73, x74, x75, x76, x77, x78, x79, x80, x81, x82, x83] w84))) ∧ (
 AskO X w109 [b15] (kb8_3 b0 b1 b2 b3 b4 b5 b6 b7 b8 b9 b10 b11 b12 b13 b14 b15 x10 x11 x12 x13 x14 x15 x16 x17 x18 x19 x20 x21 x22 x23 x1 x2 x24 x25 x26 x27 x52 x53 x54 x59 x60 x65 x66 x67 x68 x69 x70 x71 x72 x73 x74 x75 x76 x77 x78 x79 x80 x81 x82 x83 x62 x95 x103 x118) false (Op.buildSlice 28 1 #[(0, Operand.tmp 153)]) 28 [(153, x118)] fun x119 w119 =>
 AskO X w119 [] (kb8_3 b0 b1 b2 b3 b4 b5 b6 b7 b8 b9 b10 b11 b12 b13 b14 b15 x10 x11 x12 x13 x14 x15 x16 x17 x18 x19 x20 x21 x22 x23 x1 x2 x24 x25 x26 x27 x52 x53 x54 x59 x60 x65 x66 x67 x68 x69 x70 x71 x72 x73 x74 x75 x76 x77 x78 x79 x80 x81 x82 x83 x62 x95 x103 x118) false (Op.buildSlice 28 1 #[(0, Operand.tmp 148)]) 28 [(148, x103)] fun x120 w120 =>
 AskO X w120 [] (kb8_3 b0 b1 b2 b3 b4 b5 b6 b7 b8 b9 b10 b11 b12 b13 b14 b15 x10 x11 x12 x13 x14 x15 x16 x17 x18 x19 x20 x21 x22 x23 x1 x2 x24 x25 x26 x27 x52 x53 x54 x59 x60 x65 x66 x67 x68 x69 x70 x71 x72 x73 x74 x75 x76 x77 x78 x79 x80 x81 x82 x83 x62 x95 x103 x118) true (appOp (.tmp 147) (.tmp 149) 28) 28 [(147, x81), (149, x120)] fun x121 w121 =>
 AskO X w121 [] (kb8_3 b0 b1 b2 b3 b4 b5 b6 b7 b8 b9 b10 b11 b12 b13 b14 b15 x10 x11 x12 x13 x14 x15 x16 x17 x18 x19 x20 x21 x22 x23 x1 x2 x24 x25 x26 x27 x52 x53 x54 x59 x60 x65 x66 x67 x68 x69 x70 x71 x72 x73 x74 x75 x76 x77 x78 x79 x80 x81 x82 x83 x62 x95 x103 x118) true (appOp (.tmp 152) (.tmp 154) 28) 28 [(152, x82), (154, x119)] fun x122 w122 =>
 Ask (rPlain x121) fun x123 =>
 Ask (rPlain x122) fun x124 =>
 AskF X 49 [x103, x118] fun x125 =>
 AskV X w122 [b10, b10] (kb8_4 b0 b1 b2 b3 b4 b5 b6 b7 b8 b9 b10 b11 b12 b13 b14 b15 x10 x11 x12 x13 x14 x15 x16 x17 x18 x19 x20 x21 x22 x23 x1 x2 x24 x25 x26 x27 x52 x53 x54 x59 x60 x65 x66 x67 x68 x69 x70 x71 x72 x73 x74 x75 x76 x77 x78 x79 x80 x123 x124 x83 x62 x95 x103 x118) false x52 [x64] fun x126 w126 =>
 AskF X 49 [x125, x126] fun x127 =>
 AskF X 29 [x83, x127] fun x128 =>
 Ask (rAgg 4 x128) fun x129 =>
 Ask (rBin X.P .add 3 false true x64 (J 1)) fun x130 =>
 Again X w126 [b11] [] fun w => I0 [x130, x65, x66, x67, x68, x69, x70, x71, x72, x73, x74, x75, x76, x77, x78, x79, x80, x123, x124, x129] w ∧ μ0 [x130, x65, x66, x67, x68, x69, x70, x71, x72, x73, x74, x75, x76, x77, x78, x79, x80, x123, x124, x129] w < μ0 [x64, x65, x66, x67, x68, x69, x70, x71, x72, x73, x74, x75, x76, x77, x78, x79, x80, x81, x82, x83] w84))) ∧ (x85 = .bool false →
 Ask (rLen X.P 47 x3) fun x86 =>
 ∃ (I0 : List Value → World → Prop) (μ0 : List Value → World → Nat), (∀ w, KnownV X w84 [] (kb8_5 b0 b1 b2 b3 b4 b5 b6 b7 b8 b9 b10 b11 b12 x10 x11 x12 x13 x14 x15 x16 x17 x18 x19 x20 x21 x22 x23 x1 x2 x24 x25 x26 x27 x52 x53 x54 x59 x60 x65 x66 x67 x68 x69 x70 x71 x72 x73 x74 x75 x76 x77 x78 x79 x80 x81 x82 x83 x62) w → I0 [(J 0), x62] w) ∧ ∀ x87 x88 w89, I0 [x87, x88] w89 →
 Ask (rBin X.P .lss 3 false false x87 x86) fun x90 =>
 (∃ t, x90 = .bool t) ∧ (x90 = .bool true →
 Ask (rIad X.P 47 x3 x87) fun x91 =>
 Ask (rLoad X w89 [] 116 x91) fun x92 =>
 AskNew w89 fun b13 =>
 Ask (rAgg 5 x92) fun x93 =>
 Ask (rSel (aggArr x93) 0 1 false) fun x94 =>
 Ask (rSel (aggArr x93) 1 1 false) fun x95 =>
 Ask (rSel (aggArr x93) 2 1 false) fun x96 =>
 Ask (rSel (aggArr x93) 3 1 false) fun x97 =>
 Ask (rSel (aggArr x93) 4 1 false) fun x98 =>
 AskV X w89 [b13] (kb8_6 b0 b1 b2 b3 b4 b5 b6 b7 b8 b9 b10 b11 b12 b13 x10 x11 x12 x13 x14 x15 x16 x17 x18 x19 x20 x21 x22 x23 x1 x2 x24 x25 x26 x27 x52 x53 x54 x59 x60 x65 x66 x67 x68 x69 x70 x71 x72 x73 x74 x75 x76 x77 x78 x79 x80 x81 x82 x83 x88 x94 x95 x96 x97 x98) false x54 [x87] fun x99 w99 =>
 AskF X 49 [x99, (.agg #[x95, x96, x97, x98])] fun x100 =>
 AskF X 29 [x88, x100] fun x101 =>
 Ask (rAgg 4 x101) fun x102 =>
 Ask (rBin X.P .add 3 false true x87 (J 1)) fun x103 =>
 Again X w99 [b12] [] fun w => I0 [x103, x102] w ∧ μ0 [x103, x102] w < μ0 [x87, x88] w89) ∧ (x90 = .bool false →
 Ask (rSel (aggArr x27) 10 4 true) fun x91 =>
 AskW X w89 [] (kb8_7 b0 b1 b2 b3 b4 b5 b6 b7 b8 b9 b10 b11 b12 x10 x11 x12 x13 x14 x15 x16 x17 x18 x19 x20 x21 x22 x23 x1 x2 x24 x25 x26 x27 x52 x53 x54 x59 x60 x65 x66 x67 x68 x69 x70 x71 x72 x73 x74 x75 x76 x77 x78 x79 x80 x81 x82 x83 x88) false 50 [x22, x81] fun x92 w92 =>
 AskF X 48 [x91, x92] fun x93 =>
 AskW X w92 [] (kb8_7 b0 b1 b2 b3 b4 b5 b6 b7 b8 b9 b10 b11 b12 x10 x11 x12 x13 x14 x15 x16 x17 x18 x19 x20 x21 x22 x23 x1 x2 x24 x25 x26 x27 x52 x53 x54 x59 x60 x65 x66 x67 x68 x69 x70 x71 x72 x73 x74 x75 x76 x77 x78 x79 x80 x81 x82 x83 x88) false 50 [x23, x82] fun x94 w94 =>
 AskF X 48 [x93, x94] fun x95 =>
 AskF X 49 [x95, x60] fun x96 =>
 Ask (rAgg 4 x96) fun x97 =>
 Ask (rSel (aggArr x97) 0 1 false) fun x98 =>
 Ask (rSel (aggArr x97) 1 1 false) fun x99 =>
 Ask (rSel (aggArr x97) 2 1 false) fun x100 =>
 Ask (rSel (aggArr x97) 3 1 false) fun x101 =>
 Ask (rSel (aggArr x27) 6 4 true) fun x102 =>
 AskF X 49 [(.agg #[x98, x99, x100, x101]), x26] fun x103 =>
 AskF X 48 [x102, x103] fun x104 =>
 Ask (rAgg 4 x104) fun x105 =>
 Ask (rSel (aggArr x105) 0 1 false) fun x106 =>
 Ask (rSel (aggArr x105) 1 1 false) fun x107 =>
 Ask (rSel (aggArr x105) 2 1 false) fun x108 =>
 Ask (rSel (aggArr x105) 3 1 false) fun x109 =>
 Ask (rSel (aggArr x27) 14 4 true) fun x110 =>
 AskF X 49 [x83, (.agg #[x10, x11, x12, x13])] fun x111 =>
 AskF X 48 [x110, x111] fun x112 =>
 AskF X 49 [x112, x60] fun x113 =>
 Ask (rAgg 4 x113) fun x114 =>
 Ask (rSel (aggArr x114) 0 1 false) fun x115 =>
 Ask (rSel (aggArr x114) 1 1 false) fun x116 =>
 Ask (rSel (aggArr x114) 2 1 false) fun x117 =>
 Ask (rSel (aggArr x114) 3 1 false) fun x118 =>
 Ask (rSel (aggArr x27) 2 4 true) fun x119 =>
 AskF X 49 [x26, x26] fun x120 =>
 AskF X 49 [(.agg #[x115, x116, x117, x118]), x120] fun x121 =>
 AskF X 48 [x119, x121] fun x122 =>
 AskF X 48 [x122, x88] fun x123 =>
 AskF X 49 [x123, x59] fun x124 =>
 Ask (rAgg 4 x124) fun x125 =>
 Ask (rSel (aggArr x125) 0 1 false) fun x126 =>
 Ask (rSel (aggArr x125) 1 1 false) fun x127 =>
 Ask (rSel (aggArr x125) 2 1 false) fun x128 =>
 Ask (rSel (aggArr x125) 3 1 false) fun x129 =>
 Ask (rPlain x106) fun x130 =>
 Ask (rPlain x107) fun x131 =>
 Ask (rPlain x108) fun x132 =>
 Ask (rPlain x109) fun x133 =>
 Ask (rPlain x98) fun x134 =>
 Ask (rPlain x99) fun x135 =>
 Ask (rPlain x100) fun x136 =>
 Ask (rPlain x101) fun x137 =>
 Ask (rPlain x126) fun x138 =>
 Ask (rPlain x127) fun x139 =>
 Ask (rPlain x128) fun x140 =>
 Ask (rPlain x129) fun x141 =>
 Ask (rPlain x115) fun x142 =>
 Ask (rPlain x116) fun x143 =>
 Ask (rPlain x117) fun x144 =>
 Ask (rPlain x118) fun x145 =>
 Ask (rPlain x81) fun x146 =>
 Ask (rPlain x82) fun x147 =>
 Ret X w94 [b6, b10, b10, b10, b10] [] (.tuple #[(.agg #[x130, x131, x132, x133, x134, x135, x136, x137, x138, x139, x140, x141, x142, x143, x144, x145, x146, x147]), (J 0)]))))))))) := by kernel_rfl
theorem getD_okS {l : List Nat} (h : ∀ x ∈ l, okS x) (i : Nat) : l.getD i 0 < W256 := by
  rw [List.getD_eq_getElem?_getD]
  cases hj : l[i]? with
  | none => exact show 0 < W256 by decide
  | some x => exact h x (List.mem_of_getElem? hj)
theorem logF_mapN (G : List Nat) (f : Nat → F) (n : Nat) : logF G (fun i => (mapN f n).getD i 0) (mapN f n).length = logF G f n := by
  unfold logF
  rw [mapN_len]
  exact sumF'_congr n fun i hi => by show (mapN f n).getD i 0 * _ = _; rw [mapN_get f 0 hi]
theorem off_lastP {g b0 b1 b2 b3 b4 b5 b6 b7 b8 b9 b10 b11 b12 : Nat} (h : g ∉ [b12, b11, b10, b9, b8, b7, b6, b5, b4, b3, b2, b1, b0]) : g ∉ [b6, b10, b10, b10, b10] := by
  simp only [List.mem_cons, List.not_mem_nil, or_false, not_or] at h ⊢
  omega
set_option maxHeartbeats 8000000 in
theorem keepsBack : Keeps1 Tryz.prog GT 8 cBack := by
  refine keepsW (T := Tpb) (A := ann8) hMix keepTpb hGT (calls_of (by kernel_rfl)) (callsW_of (by kernel_rfl)) fun args q w0 hrd _ _ => ?_
  obtain ⟨_, _, rfl, ⟨okp, g, h, rfl, hg, hh⟩, _, _, rfl, rfl, v, _, rfl, hv, _, _, rfl, ⟨rfl, hy⟩, _, _, rfl, ⟨rfl, hz⟩, _, _, rfl, ⟨rfl, hx⟩, _, _, rfl, ⟨okt, lv, rv, rfl, hl, hr⟩, rfl⟩ := hrd
  dsimp only at okp hg hh hv hy hz hx okt hl hr
  replace hv : LsO w0 v q.vs := hv
  refine ⟨[.x (.v 0), .l [.v 1, .v 2], .x (.v 3), .x (.v 4), .x (.v 5), .x (.v 6), .x (.v 7)], [], [], 9, env0 [.agg (setL q.p g h).toArray, .int .i64 q.b, .int .i64 q.c, v, S q.y, S q.z, S q.x, .agg (stNL q.t lv rv).toArray] w0, fun b => b, 0, rfl, rfl, fun X hX => mem_none hX rfl, fun X hP hS hw hX hR => ?_⟩
  subst hw; try dsimp only at hR
  rw [vc8 X]
  refine a_agg (setL_len _ _ _) (setL_one (slAt_one hg.1) (slAt_one hh.1)) ?_
  iterate 12 refine a_sel1 rfl ?_
  refine a_sel1 (v := g) rfl ?_
  refine a_sel1 (v := h) rfl ?_
  intro b0 hb0 b1 hb1
  rw [ask_aggS]; intro b2 hb2
  rw [ask_aggS]; intro b3 hb3
  rw [ask_aggS]; intro b4 hb4
  refine a_agg (stNL_len _ _ _) (stNL_one (slAt_one hl.1) (slAt_one hr.1)) ?_
  intro b5 hb5 b6 hb6
  have nothing : ∀ {w' : World} {ow : List Nat} {bl : List KB} {k : Nat}, q.err = k → k ≠ 0 → Ret X w' ow bl (.tuple #[(.agg #[(U 0), (U 0), (U 0), (U 0), (U 0), (U 0), (U 0), (U 0), (U 0), (U 0), (U 0), (U 0), (U 0), (U 0), (U 0), (U 0), (.slice none 0 0), (.slice none 0 0)]), J k]) := fun he hk => hR _ _ _ _ fun _ _ => by
    refine ⟨_, by rw [he], ?_⟩
    unfold BkP.out
    rw [if_neg (by omega)]
    exact ⟨_, _, tpL_zero _ _ _ _, ⟨.inl ⟨rfl, rfl, rfl⟩, fun _ h => by cases h⟩, ⟨.inl ⟨rfl, rfl, rfl⟩, fun _ h => by cases h⟩, TpOwn.none rfl rfl⟩
  refine call_PE hS (T := Tpb) (f := 42) rfl (q.b, q.c) trivial ?_
  rw [ask_not]
  refine a_if (fun h1 => nothing (k := 130) (by
    have : q.fit = 130 := by unfold BkP.fit fitsE; rw [if_pos (by simpa using h1)]
    unfold BkP.err; rw [this]; rfl) (by decide)) fun h1 => ?_
  have hok : okPar q.b q.c = true := by simpa using h1
  have setP : ∀ {w : World}, Stp [] X.w0 w → cSetN.rd w (.agg (setL q.p g h).toArray) q.p := fun hs => cSetN_stable _ _ _ _ hs ⟨okp, g, h, rfl, hg, hh⟩
  refine call_W hX hS (T := Tpb) (f := 43) rfl (q.p, (q.b, q.c), ()) (fun w2 hw2 => ⟨⟨_, _, rfl, setP hw2.stp, _, _, rfl, rfl, rfl⟩, trivial⟩) fun e w2 w3 h2 k3 s3 su3 hq => ?_
  dsimp only at hq
  subst hq
  rw [ask_not]
  have size : ∀ {K' : Value → Prop}, K' (.int .i64 (sizeI q.b q.c)) → AskF X 23 [.agg #[.int .i64 q.b, .int .i64 q.c]] K' := fun hK => call_PE hS (T := Tpb) (f := 23) rfl (q.b, q.c) trivial hK
  refine a_or2 (d := ((q.vs.length : Int) != q.c)) (fun _ K' hK => a_len hP tyOP hv.1 (by rw [ask_neqI]; exact hK)) ?_
  refine a_or4F (d := ((q.t.2.2.2.2.1.length : Int) != sizeI q.b q.c)) (fun _ K' hK => a_sel1 (v := lv) rfl (a_len hP tySI hl.1 (size (by rw [ask_neqI]; exact hK)))) ?_
  refine a_or4F (d := ((q.t.2.2.2.2.2.length : Int) != sizeI q.b q.c)) (fun _ K' hK => a_sel1 (v := rv) rfl (a_len hP tySI hr.1 (size (by rw [ask_neqI]; exact hK)))) ?_
  refine a_if (fun h2' => nothing (k := 2) (by
    have : q.fit = 2 := by unfold BkP.fit fitsE; rw [if_neg (by simp [hok]), if_pos h2']
    unfold BkP.err; rw [this]; rfl) (by decide)) fun h2' => ?_
  obtain ⟨m, n, hb, hc, hm0, hm1, hn0, hn1⟩ := okPar_spec hok
  refine call_W hX hS (T := Tpb) (f := 44) rfl ((m, n), q.vs, ()) (fun w4 hw4 => ⟨⟨_, _, rfl, (by rw [hb, hc]; rfl), _, _, rfl, cLO_stable _ _ _ _ (su3.trans0 hw4.stp) hv, rfl⟩, hm0, hm1⟩) fun e w4 w5 h4 k5 s5 su5 hq => ?_
  dsimp only at hq
  subst hq
  rw [ask_not]
  rw [← hb]
  refine a_if (fun h3 => nothing (k := 131) (by
    have : q.fit = 131 := by unfold BkP.fit fitsE; rw [if_neg (by simp [hok]), if_neg (by rw [h2']; decide), if_pos (by simpa using h3)]
    unfold BkP.err; rw [this]; rfl) (by decide)) fun h3 => ?_
  have hfit : q.fit = 0 := by unfold BkP.fit fitsE; rw [if_neg (by simp [hok]), if_neg (by rw [h2']; decide), if_neg (by simpa using h3)]
  obtain ⟨m', n', hb', hc', _, _, hG, hH, hvl, hsl, hsr, _⟩ := fits0 hfit
  obtain rfl : m = m' := by omega
  obtain rfl : n = n' := by omega
  have em : q.m = m := by unfold BkP.m; rw [hb]; rfl
  have en : q.n = n := by unfold BkP.n; rw [hc]; rfl
  have eN : q.N = m * n := by unfold BkP.N; rw [em, en]
  have hN : q.N ≤ 1024 := by rw [eN]; exact Nat.le_trans (Nat.mul_le_mul hm1 hn1) (by decide)
  have esz : sizeI q.b q.c = ((q.N : Nat) : Int) := by rw [hb, hc, eN]; exact sizeI_nat (by omega)
  refine a_build ([q.y, q.z, q.x].flatMap encS).toArray hX hP tySI (by decide) (by decide) (by kernel_rfl) rfl (by decide) fun gz w6 w7 h6 k7 s7 su7 o7 => ?_
  refine call_W hX hS (T := Tpb) (f := 45) rfl ([q.y, q.z, q.x], ()) (fun w8 hw8 => ⟨⟨_, _, rfl, ⟨(own_slAt o7).stp0 hw8.stp, by
    intro a ha
    simp only [List.mem_cons, List.not_mem_nil, or_false] at ha
    rcases ha with rfl | rfl | rfl
    · exact hy
    · exact hz
    · exact hx⟩, rfl⟩, trivial⟩) fun e w8 w9 h8 k9 s9 su9 hq => ?_
  dsimp only at hq
  subst hq
  refine a_if (fun hz0 => nothing (k := 4) (by unfold BkP.err; rw [hfit, if_neg (by decide), if_pos hz0]) (by decide)) fun hz0 => ?_
  have fold : ∀ n, Value.agg #[U (lb n 0), U (lb n 1), U (lb n 2), U (lb n 3)] = S n := fun _ => rfl
  refine call_PE hS (T := Tpb) (f := 30) rfl q.p.2.1 okp.2.1 ?_
  refine a_ifD (fun hz1 => nothing (k := 61) (by unfold BkP.err; rw [hfit, if_neg (by decide), if_neg (by rw [hz0]; decide), if_pos hz1]) (by decide)) fun hz1 => ?_
  have herr : q.err = 0 := by unfold BkP.err; rw [hfit, if_neg (by decide), if_neg (by rw [hz0]; decide), if_neg hz1]
  refine call_W hX hS (T := Tpb) (f := 46) rfl ((m, n), q.y, q.z, ()) (fun w10 hw10 => ⟨⟨_, _, rfl, (by rw [hb, hc]; rfl), _, _, rfl, ⟨rfl, hy⟩, _, _, rfl, ⟨rfl, hz⟩, rfl⟩, hm0, hm1, hn1⟩) fun e w10 W h10 kW sW suW hq => ?_
  obtain ⟨cy, cz, cp, ct, cv, xy, xz, xt, rfl, hwt⟩ := hq
  dsimp only at hwt
  rw [← eN] at hwt
  have s10 : Stp [] X.w0 W := su3.trans0 (su5.trans0 (su7.trans0 (su9.trans0 suW)))
  have kWz := kW.sz0
  have zW := sW.size
  have lo : ∀ b ∈ [b6, b5, b4, b3, b2, b1, b0], b < w10.heap.size := fun b hb => h10.low (by simpa [kb8_0, or_comm, or_left_comm, or_assoc] using hb)
  intro b7 hb7
  refine a_agg (cs := [Fy cy, Fb cv cp ct, Fv cz]) rfl rfl ?_
  refine a_sel1 (v := Fy cy) rfl ?_
  refine a_sel1 (v := Fb cv cp ct) rfl ?_
  refine a_sel1 (v := Fv cz) rfl ?_
  refine p_Inv hS hx rfl ?_
  rw [fold]
  refine p_Inv hS okp.2.1 rfl ?_
  rw [ask_zero4]; intro b8 hb8
  rw [ask_zero4]; intro b9 hb9
  rw [ask_aggS, ask_aggS]
  intro b10 hb10
  rw [ask_zero4]; intro b11 hb11
  rw [ask_zero4]; intro b12 hb12
  refine size ?_
  rw [esz]
  obtain ⟨fam, fam0, fam1⟩ := q.fams
  have wts : ∀ {u w : World} {ow : List Nat} {bl : List KB}, Stp [] W u → (∀ b ∈ ow, W.heap.size ≤ b) → KnownV X u ow bl w → WtsAt w10.heap.size W.heap.size w (mapN (fp (rF q.y)) q.N) (mapN (fp (rF q.z)) (n + 2)) (mapN (fp (rF 2)) m) m cy cz cp ct cv xy xz xt := fun h1 h2 h3 => by
    have h4 := (h1.trans h3.stp).drop (by simpa using h2)
    exact hwt.stp h4 (by simp)
  have wy : ∀ {u : World} {ow : List Nat} {bl : List KB} {KW : Value → World → Prop} (k : Nat), k < q.N → Stp [] W u → (∀ b ∈ ow, W.heap.size ≤ b) → (∀ w', Kn X w' → Stp ow u w' → KW (S (fp (rF q.y) k).val) w') → AskV X u ow bl false (Fy cy) [J k] KW := fun {u ow bl KW} k hk h1 h2 hK => by
    refine call_V hX hS rfl (fun args w => by rw [hP]; exact enters_of (by kernel_rfl) args w) (T := Tpb) (f := 97) rfl (k, mapN (fp (rF q.y)) q.N, ()) (fun w hw => ⟨⟨_, _, rfl, rfl, _, _, rfl, ⟨cy, xy, rfl, (wts h1 h2 hw).hy, (wts h1 h2 hw).ly⟩, rfl⟩, by show k < (mapN _ _).length; rw [mapN_len]; exact hk⟩) fun v w w' hw hk' hs hsu hp => ?_
    dsimp only at hp
    rw [mapN_get _ 0 hk] at hp
    subst hp
    exact hK w' hk' hsu
  have wv : ∀ {u : World} {ow : List Nat} {bl : List KB} {KW : Value → World → Prop} (j : Nat), j < n → Stp [] W u → (∀ b ∈ ow, W.heap.size ≤ b) → (∀ w', Kn X w' → Stp ow u w' → KW (S (fp (rF q.z) (2 + j)).val) w') → AskV X u ow bl false (Fv cz) [J j] KW := fun {u ow bl KW} j hj h1 h2 hK => by
    refine call_V hX hS rfl (fun args w => by rw [hP]; exact enters_of (by kernel_rfl) args w) (T := Tpb) (f := 96) rfl (j, mapN (fp (rF q.z)) (n + 2), ()) (fun w hw => ⟨⟨_, _, rfl, rfl, _, _, rfl, ⟨cz, xz, rfl, (wts h1 h2 hw).hz, (wts h1 h2 hw).lz⟩, rfl⟩, by show 2 + j < (mapN _ _).length; rw [mapN_len]; omega, by show j < 2 ^ 62; omega⟩) fun v w w' hw hk' hs hsu hp => ?_
    dsimp only at hp
    rw [mapN_get _ 0 (by omega)] at hp
    subst hp
    exact hK w' hk' hsu
  have wb : ∀ {u : World} {ow : List Nat} {bl : List KB} {KW : Value → World → Prop} (k : Nat), k < q.N → Stp [] W u → (∀ b ∈ ow, W.heap.size ≤ b) → (∀ w', Kn X w' → Stp ow u w' → KW (S (q.wt k).val) w') → AskV X u ow bl false (Fb cv cp ct) [J k] KW := fun {u ow bl KW} k hk h1 h2 hK => by
    have hd : k / m < n := Nat.div_lt_of_lt_mul (by rw [← eN]; exact hk)
    have hr' : k % m < m := Nat.mod_lt _ hm0
    refine call_V hX hS rfl (fun args w => by rw [hP]; exact enters_of (by kernel_rfl) args w) (T := Tpb) (f := 98) rfl (k, mapN (fp (rF q.z)) (n + 2), m, mapN (fp (rF 2)) m) (fun w hw => ⟨⟨cv, cp, ct, cz, xz, xt, rfl, (wts h1 h2 hw).hv, (wts h1 h2 hw).hz, (wts h1 h2 hw).lz, (wts h1 h2 hw).hp, (wts h1 h2 hw).ht, (wts h1 h2 hw).lt⟩, hm0, by show 2 + k / m < (mapN _ _).length; rw [mapN_len]; omega, by show k % m < (mapN _ _).length; rw [mapN_len]; exact hr', by show k < 2 ^ 62; omega⟩) fun v w w' hw hk' hs hsu hp => ?_
    dsimp only at hp
    rw [mapN_get _ 0 (by omega), mapN_get _ 0 hr', show fp (rF q.z) (2 + k / m) * fp (rF 2) (k % m) = q.wt k by unfold BkP.wt; rw [em]] at hp
    subst hp
    exact hK w' hk' hsu
  refine ⟨fun a w => ∃ (k : Nat) (V : Nat → Value), a = [J k, U 0, U 0, U 0, U 0, U 0, U 0, U 0, U 0, U 0, U 0, U 0, U 0, U 0, U 0, U 0, U 0, V 0, V 1, S (q.t2 k).val] ∧ k ≤ q.N ∧ Kn X w ∧ MRows W w 29 4 encF [b12, b11, b10, b9, b8, b7, b6, b5, b4, b3, b2, b1, b0] 2 V (fun j => mapN (fam j) k), fun a _ => match a with | i :: _ => q.N - intNat i | _ => 0,
    fun w hw => ⟨0, fun _ => .slice none 0 0, rfl, Nat.zero_le _, hw.kn, ?_⟩, ?_⟩
  · exact (MRows.nil W (hw.stp.drop (by simpa using ⟨hb9, hb8, hb7⟩)) encF _ 2 _ 4).congr fun j _ => rfl
  rintro _ _ _ _ _ _ _ _ _ _ _ _ _ _ _ _ _ _ _ _ w ⟨k, V, he, hk, hkn, hm⟩
  simp only [List.cons.injEq, and_true] at he
  obtain ⟨rfl, rfl, rfl, rfl, rfl, rfl, rfl, rfl, rfl, rfl, rfl, rfl, rfl, rfl, rfl, rfl, rfl, rfl, rfl, rfl⟩ := he
  rw [ask_lssN]
  refine a_ifD (fun hlt => ?_) fun hge => ?_
  · have s0 := hkn.stp0 hX
    have z0 := hkn.sz0
    have zWw := hm.low.size
    have hdiv : k / m < q.vs.length := by rw [hvl]; exact Nat.div_lt_of_lt_mul (by rw [← eN]; exact hlt)
    rw [show (Value.int .i64 q.b) = J m by rw [hb]]
    rw [ask_quoN hm0 (by omega)]
    refine ld_OPV hP hkn (hv.1.stp0 s0) rfl hdiv (fun _ _ => List.not_mem_nil) ?_
    have hr64 : k % m < 64 := by have := Nat.mod_lt k hm0; omega
    have hO : vAt q.vs (k / m) < B64 := (okO_at hv (k / m)).1
    rw [ask_remN hm0, ask_ushr (kd := .i64) hr64, ask_umask (k := 1) (Nat.lt_of_le_of_lt (Nat.div_le_self _ _) hO) rfl (by decide)]
    refine call_PE hS (T := Tpb) (f := 28) rfl (bitN q.vs m k) (Nat.lt_trans (bitN_lt _ _ _) (by decide)) ?_
    rw [bitF_S, show bitF q.vs m k = q.bit k by unfold BkP.bit; rw [em]]
    rw [ask_zero4]; intro b13 hb13
    rw [ask_aggS]
    refine a_sel1 (v := lv) rfl ?_
    refine ld_SN hP hkn (hl.1.stp0 s0) rfl (by omega) (slAt_off hl.1 (by rw [flat_len encS_len]; omega) (by simp; omega)) ?_
    refine p_Sub hS (getD_okS hl.2 k) (val_lt _) rfl (rF_val _) ?_
    refine p_Add hS (val_lt _) hz (rF_val _) rfl ?_
    refine p_Mul hS (val_lt _) (val_lt _) (rF_val _) (rF_val _) ?_
    rw [show (rF (q.t.2.2.2.2.1.getD k 0) - q.bit k + rF q.z) * finv (rF q.x) = fam 0 k by rw [fam0]; rfl]
    rw [ask_zero4]; intro b14 hb14
    rw [ask_aggS]
    refine a_sel1 (v := rv) rfl ?_
    refine ld_SN hP hkn (hr.1.stp0 s0) rfl (by omega) (slAt_off hr.1 (by rw [flat_len encS_len]; omega) (by simp; omega)) ?_
    have ge2 : ∀ b ∈ [b14, b13], W.heap.size ≤ b := by simp; omega
    refine wb k hlt hm.low ge2 fun w1 k1 s1 => ?_
    have low1 : Stp [] W w1 := (hm.low.trans s1).drop (by simpa using ge2)
    refine p_Sub hS (getD_okS hr.2 k) (val_lt _) rfl (rF_val _) ?_
    refine wy k hlt low1 (by simp) fun w2 k2 s2 => ?_
    refine p_Inv hS (val_lt _) (rF_val _) ?_
    refine p_Mul hS (val_lt _) (val_lt _) (rF_val _) (rF_val _) ?_
    refine call_PE hS (T := Tpb) (f := 28) rfl 1 (by decide) ?_
    rw [show S 1 = S (1 : F).val from rfl]
    refine p_Sub hS (val_lt _) (val_lt _) (rF_val _) (rF_val _) ?_
    refine p_Sub hS (val_lt _) (val_lt _) (rF_val _) (rF_val _) ?_
    refine p_Sub hS (val_lt _) hz (rF_val _) rfl ?_
    refine p_Mul hS (val_lt _) (val_lt _) (rF_val _) (rF_val _) ?_
    rw [show ((rF (q.t.2.2.2.2.2.getD k 0) - q.wt k) * finv (fp (rF q.y) k) - (q.bit k - 1) - rF q.z) * finv (rF q.x) = fam 1 k by rw [fam1]; rfl]
    rw [ask_zero4]; intro b15 hb15
    rw [ask_aggS]
    have hm2 : MRows W w2 29 4 encF [b15, b14, b13, b12, b11, b10, b9, b8, b7, b6, b5, b4, b3, b2, b1, b0] 2 V (fun j => mapN (fam j) k) := ((((hm.more hb13).more hb14).more hb15).stpE s1 (by simp) ge2).stp s2
    have hlen : ∀ j i, (mapN (fam j) i).length = i := fun j i => mapN_len _ _
    refine a_push2 _ hX hP rfl rfl hm2 rfl rfl kWz (fun b hb => by simpa [kb8_3, or_comm, or_left_comm, or_assoc] using hb) (fun b hb => by simpa [kb8_3, or_comm, or_left_comm, or_assoc] using hb) (fun b hb => by
      simp only [List.mem_cons, List.not_mem_nil, or_false] at hb
      subst hb
      exact ⟨by simp, by omega⟩) (by rw [hlen]; omega) (by rw [hlen]; omega) fun v0 v1 w3 k3 s3 hm3 => ?_
    refine p_Mul hS (val_lt _) (val_lt _) (rF_val _) (rF_val _) ?_
    have ge10 : ∀ b ∈ [b10, b10], W.heap.size ≤ b := by simp; omega
    refine wy k hlt s3 ge10 fun w4 k4 s4 => ?_
    refine p_Mul hS (val_lt _) (val_lt _) (rF_val _) (rF_val _) ?_
    refine p_Add hS (val_lt _) (val_lt _) (rF_val _) (rF_val _) ?_
    rw [show q.t2 k + fam 0 k * fam 1 k * fp (rF q.y) k = q.t2 (k + 1) by rw [fam0, fam1]; rfl]
    rw [ask_aggS, ask_succ (by omega)]
    intro w8 hw8
    refine ⟨⟨k + 1, fun j => if j = 0 then v0 else v1, rfl, hlt, hw8.kn, (((hm3.stpE s4 (by simp) ge10).stpE hw8.stp (by simp) (all1 (by omega))).less (fun b hb => List.mem_cons_of_mem _ (List.mem_cons_of_mem _ (List.mem_cons_of_mem _ hb)))).congr (fun j hj => ?_)⟩, by simp [intNat]; omega⟩
    match j, hj with
    | 0, _ => exact (mapN_succ _ _).symm
    | 1, _ => exact (mapN_succ _ _).symm
  · obtain rfl : k = q.N := by omega
    refine a_len hP tyOP hv.1 ?_
    refine ⟨fun a w => ∃ (j : Nat), a = [J j, S (q.blinds j).val] ∧ j ≤ n ∧ Kn X w ∧ MRows W w 29 4 encF [b12, b11, b10, b9, b8, b7, b6, b5, b4, b3, b2, b1, b0] 2 V (fun j => mapN (fam j) q.N), fun a _ => match a with | i :: _ => n - intNat i | _ => 0,
      fun w2 hw2 => ⟨0, rfl, Nat.zero_le _, hw2.kn, hm.stp hw2.stp⟩, ?_⟩
    rintro _ _ w2 ⟨j, he, hj, hk2, hm2⟩
    simp only [List.cons.injEq, and_true] at he
    obtain ⟨rfl, rfl⟩ := he
    have s2 := hk2.stp0 hX
    have zWw := hm2.low.size
    rw [ask_lssN]
    refine a_ifD (fun hlt => ?_) fun hge => ?_
    · have hjn : j < n := by omega
      have hOb := okO_at hv j
      refine ld_OP hP hk2 (hv.1.stp0 s2) rfl hlt (fun _ _ => List.not_mem_nil) ?_
      intro b13 hb13
      refine a_cellsO ?_
      have ge13 : ∀ b ∈ [b13], W.heap.size ≤ b := by simp; omega
      refine wv j hjn hm2.low ge13 fun w3 k3 s3 => ?_
      rw [fold]
      refine p_Mul hS (val_lt _) hOb.2 (rF_val _) rfl ?_
      refine p_Add hS (val_lt _) (val_lt _) (rF_val _) (rF_val _) ?_
      rw [show q.blinds j + fp (rF q.z) (2 + j) * rF (q.vs.getD j (0, 0)).2 = q.blinds (j + 1) from rfl]
      rw [ask_aggS, ask_succ (by omega)]
      intro w6 hw6
      exact ⟨⟨j + 1, rfl, hjn, hw6.kn, (((hm2.more hb13).stpE s3 (by simp) ge13).stpE hw6.stp (by simp) (all1 (by omega))).less (fun b hb => List.mem_cons_of_mem _ hb)⟩, by simp [intNat]; omega⟩
    · obtain rfl : j = n := by omega
      have rd : ∀ (j : Nat) {w' : World}, j < 2 → Stp [] w2 w' → LsF w' (V j) (mapN (fam j) q.N) := fun j w' hj hs => ⟨by rw [mapN_len]; have := (own_slAt (hm2.row j hj)).stp0 hs; rw [mapN_len] at this; exact this, fun _ _ => trivial⟩
      have lsG : ∀ {w : World}, Stp [] X.w0 w → cLS.rd w g q.p.2.2.2.1 := fun hs => cL_stable _ _ _ _ hs hg
      have lsH : ∀ {w : World}, Stp [] X.w0 w → cLS.rd w h q.p.2.2.2.2 := fun hs => cL_stable _ _ _ _ hs hh
      have four : ∀ {n : Nat} {K : Value → Value → Value → Value → Prop}, K (U (lb n 0)) (U (lb n 1)) (U (lb n 2)) (U (lb n 3)) → Ask (rAgg 4 (S n)) fun x => Ask (rSel (aggArr x) 0 1 false) fun a => Ask (rSel (aggArr x) 1 1 false) fun b => Ask (rSel (aggArr x) 2 1 false) fun c => Ask (rSel (aggArr x) 3 1 false) fun d => K a b c d := fun {n K} h => by
        rw [ask_aggS]
        exact a_sel1 (v := U (lb n 0)) rfl (a_sel1 (v := U (lb n 1)) rfl (a_sel1 (v := U (lb n 2)) rfl (a_sel1 (v := U (lb n 3)) rfl h)))
      have blE : q.blinds j = q.blinds q.n := by rw [en]
      refine a_selL (ds := encS q.t.2.2.1) rfl (by rw [stNL_len]; omega) ?_
      refine call_W hX hS (T := Tpb) (f := 50) rfl (q.p.2.2.2.1, mapN (fam 0) q.N, ()) (fun w3 hw3 => ⟨⟨_, _, rfl, lsG (s2.trans0 hw3.stp), _, _, rfl, rd 0 (by decide) hw3.stp, rfl⟩, by show (mapN (fam 0) q.N).length ≤ q.p.2.2.2.1.length; rw [mapN_len, eN]; exact hG⟩) fun e w3 w4 h3 k4 s4 su4 hq => ?_
      dsimp only at hq
      rw [logF_mapN, fam0] at hq
      subst hq
      refine p_Sub hS okt.2.2.1 (val_lt _) rfl (rF_val _) ?_
      refine call_W hX hS (T := Tpb) (f := 50) rfl (q.p.2.2.2.2, mapN (fam 1) q.N, ()) (fun w3 hw3 => ⟨⟨_, _, rfl, lsH (s2.trans0 (su4.trans0 hw3.stp)), _, _, rfl, rd 1 (by decide) (su4.trans0 hw3.stp), rfl⟩, by show (mapN (fam 1) q.N).length ≤ q.p.2.2.2.2.length; rw [mapN_len, eN]; exact hH⟩) fun e w5 w6 h5 k6 s6 su6 hq => ?_
      dsimp only at hq
      rw [logF_mapN, fam1] at hq
      subst hq
      refine p_Sub hS (val_lt _) (val_lt _) (rF_val _) (rF_val _) ?_
      refine p_Mul hS (val_lt _) (val_lt _) (rF_val _) (rF_val _) ?_
      refine four (n := q.rho.val) ?_
      refine a_selL (ds := encS q.t.2.1) rfl (by rw [stNL_len]; omega) ?_
      rw [fold]
      refine p_Mul hS (val_lt _) hx (rF_val _) rfl ?_
      refine p_Sub hS okt.2.1 (val_lt _) rfl (rF_val _) ?_
      refine four (n := q.alpha.val) ?_
      refine a_selL (ds := encS q.t.2.2.2.1) rfl (by rw [stNL_len]; omega) ?_
      rw [fold]
      refine p_Mul hS (val_lt _) okp.1 (rF_val _) rfl ?_
      refine p_Sub hS okt.2.2.2 (val_lt _) rfl (rF_val _) ?_
      refine p_Mul hS (val_lt _) (val_lt _) (rF_val _) (rF_val _) ?_
      refine four (n := q.tau2.val) ?_
      refine a_selL (ds := encS q.t.1) rfl (by rw [stNL_len]; omega) ?_
      refine p_Mul hS hx hx rfl rfl ?_
      rw [fold]
      refine p_Mul hS (val_lt _) (val_lt _) (rF_val _) (rF_val _) ?_
      refine p_Sub hS okt.1 (val_lt _) rfl (rF_val _) ?_
      refine p_Sub hS (val_lt _) (val_lt _) (rF_val _) (rF_val _) ?_
      refine p_Mul hS (val_lt _) (val_lt _) (rF_val _) (rF_val _) ?_
      rw [blE]
      refine four (n := q.tau1.val) ?_
      iterate 16 rw [ask_uplain]
      refine a_plain (own_one (hm2.row 0 (by decide))) ?_
      refine a_plain (own_one (hm2.row 1 (by decide))) ?_
      rw [tp_fold q.alpha q.rho q.tau1 q.tau2 (mapN q.dsl q.N) (mapN q.dsr q.N)]
      have hout : q.out = (q.alpha, q.rho, q.tau1, q.tau2, mapN q.dsl q.N, mapN q.dsr q.N) := if_pos herr
      have last : ∀ (j : Nat), j < 2 → ∀ wf, KnownV X w6 [b6, b10, b10, b10, b10] [] wf → LsF wf (V j) (mapN (fam j) q.N) := fun j hj wf hwf => (rd j hj (su4.trans0 su6)).stp hwf.stp fun g' hg' => off_lastP (hm2.off j hj g' hg')
      refine hR _ _ _ _ fun wf hwf => ⟨_, by rw [herr], ?_⟩
      rw [hout]
      have l0 := last 0 (by decide) wf hwf
      have l1 := last 1 (by decide) wf hwf
      rw [fam0] at l0
      rw [fam1] at l1
      have lt : ∀ j, j < 2 → ∀ g, (V j).ownBlock = some g → X.w0.heap.size ≤ g ∧ g < wf.heap.size := fun j hj g hg => by
        have h1 := (hm2.row j hj).lt g hg
        have h2 := (su4.trans0 su6).size
        have h3 := hwf.size
        exact ⟨Nat.le_trans kWz h1.1, Nat.lt_of_lt_of_le h1.2 (Nat.le_trans h2 h3)⟩
      exact ⟨V 0, V 1, rfl, l0, l1, TpOwn.two (lt 0 (by decide)) (lt 1 (by decide))⟩
#print axioms keepsBack
end Go.Vc
