/-
  SigmaSole: the law, the walk.
-/
import Derived.Test.YtapkkciimlffnaaGreatDoorDSs4
import Derived.Test.YtapkkciimlffnaaGreatDoorDGb4
namespace Go.Vc
open Go Go.Proofs Go.RowKit

/-! ### the law -/
theorem mod_cancelS {l a b t : Nat} (hl : 0 < l) (h : (a + t) % l = (b + t) % l) : a % l = b % l := by
  have key : ∀ z, ((z + t) % l + (l - t % l)) % l = z % l := fun z => by
    rw [Nat.mod_add_mod]
    have h1 : l * (t / l) + t % l = t := Nat.div_add_mod t l
    have h2 := Nat.mod_lt t hl
    have e : z + t + (l - t % l) = z + l * (t / l + 1) := by rw [Nat.mul_add, Nat.mul_one]; omega
    rw [e, Nat.add_mul_mod_self_left]
  rw [← key a, h, key b]
theorem getD_msgF (n : Nat) (L : List Nat) (c : Nat) (a : List Nat) (ha : a.length ≤ n) (j : Nat) : (msgF (unitsL 0 n) L c a).getD j 0 = (a.getD j 0 % lN + (trim (L.map (Fk.mul (subL 0 (c % lN))).op)).getD j 0) % lN := by
  unfold msgF
  rw [getD_trim, getD_addF, plain_get, sumF_units j a 0 n ha, if_pos (Nat.zero_le _), Nat.sub_zero]
theorem sole_law (n : Nat) (L : List Nat) (c : Nat) (a b : List Nat) (ha : a.length = n) (hb : b.length = n) : eqF (msgF (unitsL 0 n) L c b) (msgF (unitsL 0 n) L c a) ↔ ∀ j, j < n → a.getD j 0 % lN = b.getD j 0 % lN := by
  constructor
  · intro h j _
    have hj := h j
    rw [getD_msgF n L c b (by omega), getD_msgF n L c a (by omega), Nat.mod_mod, Nat.mod_mod] at hj
    have := mod_cancelS (by decide) hj
    rw [Nat.mod_mod, Nat.mod_mod] at this
    exact this.symm
  · intro h j
    rw [getD_msgF n L c b (by omega), getD_msgF n L c a (by omega)]
    rcases Nat.lt_or_ge j n with hj | hj
    · rw [h j hj]
    · rw [getD_end (a := b) (n := n) (by omega) hj, getD_end (a := a) (n := n) (by omega) hj]
/-- A list's first places, noughts behind them. -/
def padL (l : List Nat) (i n : Nat) : List Nat := (List.range n).map fun j => if j < i then l.getD j 0 else 0
theorem padL_len (l : List Nat) (i n : Nat) : (padL l i n).length = n := by simp [padL]
theorem padL_zero (l : List Nat) (n : Nat) : padL l 0 n = List.replicate n 0 := by
  refine List.ext_getElem (by simp [padL]) fun j h1 h2 => ?_
  simp [padL]
theorem padL_set (l : List Nat) (i n : Nat) (h : i < l.length) : (padL l i n).set i l[i] = padL l (i + 1) n := by
  refine List.ext_getElem (by simp [padL]) fun j h1 h2 => ?_
  rw [List.getElem_set]
  simp only [padL, List.getElem_map, List.getElem_range]
  by_cases e : i = j
  · subst e; rw [if_pos rfl, if_pos (by omega), List.getD_eq_getElem?_getD, List.getElem?_eq_getElem h]; rfl
  · rw [if_neg e]
    by_cases q : j < i
    · rw [if_pos q, if_pos (by omega)]
    · rw [if_neg q, if_neg (by omega)]
theorem padL_end (l : List Nat) (i n : Nat) (h : l.length ≤ i) : padL l (i + 1) n = padL l i n := by
  refine List.ext_getElem (by simp [padL]) fun j h1 h2 => ?_
  simp only [padL, List.getElem_map, List.getElem_range]
  by_cases q : j < i
  · rw [if_pos q, if_pos (by omega)]
  · rw [if_neg q]
    split
    · exact getD_end h (by omega)
    · rfl
theorem padL_get (l : List Nat) (i n j : Nat) (h : j < n) (hi : j < i) : (padL l i n).getD j 0 = l.getD j 0 := by
  rw [List.getD_eq_getElem?_getD, List.getElem?_eq_getElem (by rw [padL_len]; exact h)]
  simp [padL, hi]
theorem padL_ok {l : List Nat} (h : ∀ x ∈ l, okS x) (i n : Nat) : ∀ x ∈ padL l i n, okS x := fun x hx => by
  obtain ⟨j, _, rfl⟩ := List.mem_map.1 hx
  split
  · rw [List.getD_eq_getElem?_getD]
    cases hj : l[j]? with
    | none => exact (by decide : (0 : Nat) < W256)
    | some x => exact h x (List.mem_of_getElem? hj)
  · exact (by decide : (0 : Nat) < W256)
theorem own_diff {w : World} {b1 b2 s1 s2 n1 n2 : Nat} {e1 e2 : TypeId} {v1 v2 : Value} {x1 x2 : List Value} (h1 : w.ownsRow b1 e1 s1 v1 n1 x1) (h2 : w.ownsRow b2 e2 s2 v2 n2 x2) (hne : e1 ≠ e2) : ∀ g, v1.ownBlock = some g → g ∉ v2.ownBlock.toList := by
  intro g hg hm
  rcases h1.2 with ⟨rfl, _⟩ | ⟨g1, cap1, cur1, rfl, _, hg1, _⟩
  · cases hg
  rcases h2.2 with ⟨rfl, _⟩ | ⟨g2, cap2, cur2, rfl, _, hg2, _⟩
  · simp [Value.ownBlock] at hm
  · simp [Value.ownBlock] at hm hg
    subst hm hg
    rw [hg1] at hg2
    simp only [Option.some.injEq, Obj.cells.injEq] at hg2
    exact hne hg2.2.1

theorem unit_setS (i : Nat) : (List.replicate (i + 1) 0).set i 1 = unitL i := by
  rw [List.replicate_succ', List.set_append_right _ _ (by simp)]
  simp [unitL]

theorem units_get {c n i : Nat} {l : List Nat} (hl : (unitsL c n)[i]? = some l) : l = unitL (c + i) := by
  unfold unitsL at hl
  rw [List.getElem?_map] at hl
  cases hr : (List.range n)[i]? with
  | none => rw [hr] at hl; cases hl
  | some j =>
    rw [hr] at hl
    simp only [Option.map_some, Option.some.injEq] at hl
    have hi := (List.getElem?_eq_some_iff.1 hr).1
    rw [List.getElem?_range (by simpa using hi)] at hr
    simp only [Option.some.injEq] at hr
    subst hr; exact hl.symm

/-! ### the walk -/
section
variable {X : Ctx} {K : Value → Prop}
theorem a_eqlBoolS {cx cy a b : Bool} (hP : X.P = Tryz.prog) (hK : K (.bool (a == b))) : Ask (rBin X.P .eql 4 cx cy (.bool a) (.bool b)) K := by
  have e : Ask (rBin Tryz.prog .eql 4 cx cy (.bool a) (.bool b)) K = K (.bool (a == b)) := ask_eq (runs_iff fun w => by cases cx <;> cases cy <;> cases a <;> cases b <;> kernel_rfl)
  rw [hP, e]; exact hK
end
theorem and127 (i : Int) : ∃ n : Nat, n ≤ 127 ∧ IntKind.i64.wrap ((BitVec.ofInt IntKind.i64.bits i &&& BitVec.ofInt IntKind.i64.bits ((127 : Nat) : Int)).toNat : Int) = (n : Int) := by
  have e : (BitVec.ofInt IntKind.i64.bits i &&& BitVec.ofInt IntKind.i64.bits ((127 : Nat) : Int)).toNat ≤ 127 := by
    rw [BitVec.toNat_and]
    exact Nat.le_trans Nat.and_le_right (by decide)
  exact ⟨_, e, wrap_i64 (by omega) (by omega)⟩
/-- Where the loop stands. -/
structure SoI (X : Ctx) (n : Nat) (la lc : List Nat) (vx vy : Value) (Bx By B2 : Nat) (i : Nat) (r : Value) (t : Bool) (w : World) : Prop where
  k : Kn X w
  rx : w.ownsRow Bx 25 4 vx n ((padL la i n).flatMap encS)
  ry : w.ownsRow By 25 4 vy n ((padL lc i n).flatMap encS)
  row : ∃ vs : List Value, w.ownsRow B2 32 1 r i vs ∧ ∀ (k : Nat) (q : Value), vs[k]? = some q → Uw 25 B2 w q k
  sz : B2 ≤ w.heap.size
  same : t = true ↔ ∀ j, j < i → la.getD j 0 % lN = lc.getD j 0 % lN
theorem SoI.stp {X : Ctx} {n : Nat} {la lc : List Nat} {vx vy : Value} {Bx By B2 i : Nat} {r : Value} {t : Bool} {u w : World} (h : SoI X n la lc vx vy Bx By B2 i r t u) (hs : Stp [] u w) (hk : Kn X w) : SoI X n la lc vx vy Bx By B2 i r t w :=
  ⟨hk, own_stp0 h.rx hs, own_stp0 h.ry hs, let ⟨vs, a, b⟩ := h.row; ⟨vs, own_stp0 a hs, fun k q hq => own_stp0 (b k q hq) hs⟩, Nat.le_trans h.sz hs.size, h.same⟩
section
variable {X : Ctx}
/-- Are the two lists the same at the place i, where all was the same till then? -/
theorem sole_pair (hP : X.P = Tryz.prog) {T : Table} (hS : X.S = T.spec) (hT : T 8 = cSameS) {w : World} (hk : Kn X w) {n i : Nat} {vx vy : Value} {xs ys : List Nat} (hx : SlAt w vx n (xs.flatMap encS)) (hy : SlAt w vy n (ys.flatMap encS)) (lx : xs.length = n) (ly : ys.length = n)
    (ox : ∀ z ∈ xs, okS z) (oy : ∀ z ∈ ys, okS z) (hi : i < n) (t : Bool) {K : Value → Prop} (hK : ∀ t1, (t1 = true ↔ t = true ∧ xs.getD i 0 % lN = ys.getD i 0 % lN) → K (.bool t1)) :
    AskG [(.bool t, true)] (rIad X.P 22 vx (J i)) fun x1 => AskG [(.bool t, true)] (rLoad X w [] 25 x1) fun x2 => AskG [(.bool t, true)] (rIad X.P 22 vy (J i)) fun x3 => AskG [(.bool t, true)] (rLoad X w [] 25 x3) fun x4 =>
      AskGF X [(.bool t, true)] 8 [x2, x4] fun x5 => Ask (rPick (.bool t) x5 (.bool false)) K := by
  cases t with
  | false =>
    refine a_G_off (condsV1_not (by decide)) fun _ => a_G_off (condsV1_not (by decide)) fun _ => a_G_off (condsV1_not (by decide)) fun _ => a_G_off (condsV1_not (by decide)) fun _ => a_GF_off (condsV1_not (by decide)) fun _ => ?_
    rw [ask_pickF]
    exact hK _ (by simp)
  | true =>
    refine ld_SG (l := xs) hP hk hx rfl lx (by omega) (fun _ _ => List.not_mem_nil) condsV1 ?_
    refine ld_SG (l := ys) hP hk hy rfl ly (by omega) (fun _ _ => List.not_mem_nil) condsV1 ?_
    refine a_GF_on condsV1 (call_PE hS (T := T) (f := 8) hT (xs[i]'(by omega), ys[i]'(by omega)) ⟨ox _ (List.getElem_mem _), oy _ (List.getElem_mem _)⟩ ?_)
    rw [ask_pickT]
    refine hK _ ?_
    rw [List.getD_eq_getElem?_getD, List.getD_eq_getElem?_getD, List.getElem?_eq_getElem (by omega), List.getElem?_eq_getElem (by omega)]
    simp
end
def cSole : Contract := fnW (Cods.cons cI (Cods.cons cLS (Cods.cons cLS (Cods.cons cLS (Cods.cons cS Cods.nil))))) (fun p _ => p.2.2.2.1.length ≤ 1048576) (fun _ _ v _ => v = .bool true)
def Tso : Table := ((((T0.add 9 cSimF).add 11 cAccF).add 10 cAlive11).add 7 cRInt).add 8 cSameS
theorem keepTso : AllKeep Tryz.prog GT Tso := ((((keepT0.add keepsSimF).add keepsAccF).add keepsAlive11).add keepsSInt).add keepsSame
/-- Within the loop: how far each list is. -/
structure SoJ (X : Ctx) (n : Nat) (la lc : List Nat) (vx vy : Value) (Bx By B2 : Nat) (i ix iy : Nat) (r : Value) (w : World) : Prop where
  k : Kn X w
  rx : w.ownsRow Bx 25 4 vx n ((padL la ix n).flatMap encS)
  ry : w.ownsRow By 25 4 vy n ((padL lc iy n).flatMap encS)
  row : ∃ vs : List Value, w.ownsRow B2 32 1 r i vs ∧ ∀ (k : Nat) (q : Value), vs[k]? = some q → Uw 25 B2 w q k
  sz : B2 ≤ w.heap.size
theorem SoJ.stp {X : Ctx} {n : Nat} {la lc : List Nat} {vx vy : Value} {Bx By B2 i ix iy : Nat} {r : Value} {u w : World} (h : SoJ X n la lc vx vy Bx By B2 i ix iy r u) (hs : Stp [] u w) (hk : Kn X w) : SoJ X n la lc vx vy Bx By B2 i ix iy r w :=
  ⟨hk, own_stp0 h.rx hs, own_stp0 h.ry hs, let ⟨vs, a, b⟩ := h.row; ⟨vs, own_stp0 a hs, fun k q hq => own_stp0 (b k q hq) hs⟩, Nat.le_trans h.sz hs.size⟩
def ann3 : Ann := ⟨[(8, ([13, 16, 17], []))], [7, 8], 70, [(9, false), (11, false), (10, false)], [9], none, [], []⟩
def kb3_0 (b0 b1 : Nat) (x6 : Value) : List KB := [⟨b0, true, 25, (aggArr x6)⟩, ⟨b1, true, 29, #[(.slice none 0 0), (.slice none 0 0)]⟩]
def kb3_1 (b0 b1 : Nat) (x6 x18 : Value) : List KB := [⟨b0, true, 25, (aggArr x6)⟩, ⟨b1, true, 29, #[x18, (.slice none 0 0)]⟩]
def kb3_2 (b0 b1 : Nat) (x6 x18 x21 : Value) : List KB := [⟨b0, true, 25, (aggArr x6)⟩, ⟨b1, true, 29, #[x18, x21]⟩]
theorem vc3 (X : Ctx) (β : Nat → Nat) (x0 x1 x2 x3 x4 : Value) : (run Tryz.prog ann3 3 [.x (.v 0), .x (.v 1), .x (.v 2), .x (.v 3), .x (.v 4)] [] [] 6).den X (env0 [x0, x1, x2, x3, x4] X.w0) 6 β 0 (fun _ _ _ => False) = (
  Ask (rAgg 4 x4) fun x6 =>
  AskNew X.w0 fun b0 =>
  Ask (rBin X.P .and 3 false true x0 (J 127)) fun x7 =>
  Ask (rBin X.P .rem 3 false true x7 (J 6)) fun x8 =>
  Ask (rBin X.P .add 3 true false (J 1) x8) fun x9 =>
  AskNew X.w0 fun b1 =>
  AskO X X.w0 [] (kb3_0 b0 b1 x6) false (Go.Op.makeSlice 22 (Go.Operand.tmp 25) (Go.Operand.tmp 25)) 22 [(25, x9), (25, x9)] fun x10 w10 =>
  AskO X w10 [] (kb3_0 b0 b1 x6) false (Go.Op.makeSlice 22 (Go.Operand.tmp 27) (Go.Operand.tmp 27)) 22 [(27, x9), (27, x9)] fun x11 w11 =>
  ∃ (I0 : List Value → World → Prop) (μ0 : List Value → World → Nat), (∀ w, KnownV X w11 [] (kb3_0 b0 b1 x6) w → I0 [(.slice none 0 0), (.bool true), (J 0)] w) ∧ ∀ x12 x13 x14 w15, I0 [x12, x13, x14] w15 →
    Ask (rBin X.P .lss 3 false false x14 x9) fun x16 =>
    (∃ t, x16 = .bool t) ∧ (x16 = .bool true →
      Ask (rBin X.P .add 3 false true x14 (J 1)) fun x17 =>
      AskO X w15 [] (kb3_0 b0 b1 x6) false (Go.Op.makeSlice 22 (Go.Operand.tmp 35) (Go.Operand.tmp 35)) 22 [(35, x17), (35, x17)] fun x18 w18 =>
      AskF X 7 [(U 1)] fun x19 =>
      Ask (rIad X.P 22 x18 x14) fun x20 =>
      AskO X w18 [] (kb3_0 b0 b1 x6) true (Go.Op.store 25 (Go.Operand.tmp 40) (Go.Operand.tmp 39)) 0 [(40, x20), (39, x19)] fun _ w21 =>
      Ask (rPlain x18) fun x22 =>
      AskO X w21 [] (kb3_0 b0 b1 x6) false (Go.Op.buildSlice 27 1 #[(0, Go.Operand.tmp 43)]) 27 [(43, (.agg #[x22]))] fun x23 w23 =>
      AskO X w23 [] (kb3_0 b0 b1 x6) true (appOp (.tmp 41) (.tmp 44) 27) 27 [(41, x12), (44, x23)] fun x24 w24 =>
      Ask (rLen X.P 22 x1) fun x25 =>
      Ask (rBin X.P .lss 3 false false x14 x25) fun x26 =>
      (∃ t, x26 = .bool t) ∧ (x26 = .bool true →
        Ask (rIad X.P 22 x1 x14) fun x27 =>
        Ask (rLoad X w24 [] 25 x27) fun x28 =>
        Ask (rIad X.P 22 x10 x14) fun x29 =>
        AskO X w24 [] (kb3_0 b0 b1 x6) true (Go.Op.store 25 (Go.Operand.tmp 56) (Go.Operand.tmp 55)) 0 [(56, x29), (55, x28)] fun _ w30 =>
        Ask (rLen X.P 22 x2) fun x31 =>
        Ask (rBin X.P .lss 3 false false x14 x31) fun x32 =>
        (∃ t, x32 = .bool t) ∧ (x32 = .bool true →
          Ask (rIad X.P 22 x2 x14) fun x33 =>
          Ask (rLoad X w30 [] 25 x33) fun x34 =>
          Ask (rIad X.P 22 x11 x14) fun x35 =>
          AskO X w30 [] (kb3_0 b0 b1 x6) true (Go.Op.store 25 (Go.Operand.tmp 67) (Go.Operand.tmp 66)) 0 [(67, x35), (66, x34)] fun _ w36 =>
          AskG [(x13, true)] (rIad X.P 22 x10 x14) fun x37 =>
          AskG [(x13, true)] (rLoad X w36 [] 25 x37) fun x38 =>
          AskG [(x13, true)] (rIad X.P 22 x11 x14) fun x39 =>
          AskG [(x13, true)] (rLoad X w36 [] 25 x39) fun x40 =>
          AskGF X [(x13, true)] 8 [x38, x40] fun x41 =>
          Ask (rPick x13 x41 (.bool false)) fun x42 =>
          Ask (rBin X.P .add 3 false true x14 (J 1)) fun x43 =>
          Again X w36 [] [] fun w => I0 [x24, x42, x43] w ∧ μ0 [x24, x42, x43] w < μ0 [x12, x13, x14] w15) ∧ (x32 = .bool false →
          AskG [(x13, true)] (rIad X.P 22 x10 x14) fun x33 =>
          AskG [(x13, true)] (rLoad X w30 [] 25 x33) fun x34 =>
          AskG [(x13, true)] (rIad X.P 22 x11 x14) fun x35 =>
          AskG [(x13, true)] (rLoad X w30 [] 25 x35) fun x36 =>
          AskGF X [(x13, true)] 8 [x34, x36] fun x37 =>
          Ask (rPick x13 x37 (.bool false)) fun x38 =>
          Ask (rBin X.P .add 3 false true x14 (J 1)) fun x39 =>
          Again X w30 [] [] fun w => I0 [x24, x38, x39] w ∧ μ0 [x24, x38, x39] w < μ0 [x12, x13, x14] w15)) ∧ (x26 = .bool false →
        Ask (rLen X.P 22 x2) fun x27 =>
        Ask (rBin X.P .lss 3 false false x14 x27) fun x28 =>
        (∃ t, x28 = .bool t) ∧ (x28 = .bool true →
          Ask (rIad X.P 22 x2 x14) fun x29 =>
          Ask (rLoad X w24 [] 25 x29) fun x30 =>
          Ask (rIad X.P 22 x11 x14) fun x31 =>
          AskO X w24 [] (kb3_0 b0 b1 x6) true (Go.Op.store 25 (Go.Operand.tmp 67) (Go.Operand.tmp 66)) 0 [(67, x31), (66, x30)] fun _ w32 =>
          AskG [(x13, true)] (rIad X.P 22 x10 x14) fun x33 =>
          AskG [(x13, true)] (rLoad X w32 [] 25 x33) fun x34 =>
          AskG [(x13, true)] (rIad X.P 22 x11 x14) fun x35 =>
          AskG [(x13, true)] (rLoad X w32 [] 25 x35) fun x36 =>
          AskGF X [(x13, true)] 8 [x34, x36] fun x37 =>
          Ask (rPick x13 x37 (.bool false)) fun x38 =>
          Ask (rBin X.P .add 3 false true x14 (J 1)) fun x39 =>
          Again X w32 [] [] fun w => I0 [x24, x38, x39] w ∧ μ0 [x24, x38, x39] w < μ0 [x12, x13, x14] w15) ∧ (x28 = .bool false →
          AskG [(x13, true)] (rIad X.P 22 x10 x14) fun x29 =>
          AskG [(x13, true)] (rLoad X w24 [] 25 x29) fun x30 =>
          AskG [(x13, true)] (rIad X.P 22 x11 x14) fun x31 =>
          AskG [(x13, true)] (rLoad X w24 [] 25 x31) fun x32 =>
          AskGF X [(x13, true)] 8 [x30, x32] fun x33 =>
          Ask (rPick x13 x33 (.bool false)) fun x34 =>
          Ask (rBin X.P .add 3 false true x14 (J 1)) fun x35 =>
          Again X w24 [] [] fun w => I0 [x24, x34, x35] w ∧ μ0 [x24, x34, x35] w < μ0 [x12, x13, x14] w15))) ∧ (x16 = .bool false →
      AskO X w15 [] (kb3_0 b0 b1 x6) false (Go.Op.buildSlice 26 1 #[(0, Go.Operand.tmp 80)]) 26 [(80, x12)] fun x17 w17 =>
      Ask (rPlain x17) fun x18 =>
      Ask (rPlain x3) fun x19 =>
      AskO X w17 [b1] (kb3_1 b0 b1 x6 x18) false (Go.Op.buildSlice 27 1 #[(0, Go.Operand.tmp 84)]) 27 [(84, (.agg #[x19]))] fun x20 w20 =>
      Ask (rPlain x20) fun x21 =>
      AskW X w20 [b1] (kb3_2 b0 b1 x6 x18 x21) false 9 [(.agg #[x18, x21]), x6, x10] fun x22 w22 =>
      Ask (rExt X.P x22 0) fun x23 =>
      Ask (rExt X.P x22 1) fun x24 =>
      AskW X w22 [] (kb3_2 b0 b1 x6 x18 x21) false 10 [] fun x25 w25 =>
      Ask (rUn X.P .not x25) fun x26 =>
      AskG [(x26, false)] (rBin X.P .neq 3 false true x24 (J 0)) fun x27 =>
      Ask (rPick x26 (.bool true) x27) fun x28 =>
      AskGW X [(x28, false)] w25 [] (kb3_2 b0 b1 x6 x18 x21) false 11 [(.agg #[x18, x21]), x23, x6, x10] fun x29 w29 =>
      AskG [(x28, false)] (rBin X.P .neq 3 false true x29 (J 0)) fun x30 =>
      Ask (rPick x28 (.bool true) x30) fun x31 =>
      (∃ t, x31 = .bool t) ∧ (x31 = .bool true →
        Ret X w29 [] [] (.bool false)) ∧ (x31 = .bool false →
        AskW X w29 [] (kb3_2 b0 b1 x6 x18 x21) false 11 [(.agg #[x18, x21]), x23, x6, x11] fun x32 w32 =>
        Ask (rBin X.P .eql 3 false true x32 (J 0)) fun x33 =>
        Ask (rBin X.P .eql 4 false false x33 x13) fun x34 =>
        Ret X w32 [] [] x34))) := by kernel_rfl
theorem keepsSole : Keeps1 Tryz.prog GT 3 cSole := by
  refine keepsW (T := Tso) (A := ann3) hMix keepTso hGT (calls_of (by kernel_rfl)) (callsW_of (by kernel_rfl)) fun args ⟨sz0, la, lc, ll, c, _⟩ w0 hrd hpre hg => ?_
  obtain ⟨_, _, rfl, rfl, xa, _, rfl, ha, xb, _, rfl, hb, xl, _, rfl, hl, _, _, rfl, ⟨rfl, hc⟩, rfl⟩ := hrd
  dsimp only at ha hb hl hc hpre
  replace ha : Ls encS okS w0 xa la := ha
  replace hb : Ls encS okS w0 xb lc := hb
  replace hl : Ls encS okS w0 xl ll := hl
  refine ⟨[.x (.v 0), .x (.v 1), .x (.v 2), .x (.v 3), .x (.v 4)], [], [], 6, env0 [.int .i64 sz0, xa, xb, xl, S c] w0, fun b => b, 0, rfl, rfl, fun X hX => mem_none hX rfl, fun X hP hS hw hX hR => ?_⟩
  subst hw; try dsimp only at hR
  rw [vc3 X]
  rw [ask_aggS]; intro b0 hb0
  rw [ask_and]
  obtain ⟨m, hm, em⟩ := and127 sz0
  rw [em, ask_remN (by decide), ask_addN (by omega)]
  obtain ⟨n, en⟩ : ∃ n, n = 1 + m % 6 := ⟨_, rfl⟩
  rw [← en]
  have hn0 : 0 < n := by omega
  have hn6 : n ≤ 6 := by omega
  intro b1 hb1
  refine a_make (n := n) hX hP tyS' rfl rfl (by omega) (by simp only [maxLen]; omega) fun gx w10 w10' h10 k10 s10 su10 o10 => ?_
  refine a_make (n := n) hX hP tyS' rfl rfl (by omega) (by simp only [maxLen]; omega) fun gy w11 w11' h11 k11 s11 su11 o11 => ?_
  rw [makeS] at o10 o11
  have lo0 : b0 < w10.heap.size := h10.low (by simp [kb3_0])
  have lo1 : b1 < w10.heap.size := h10.low (by simp [kb3_0])
  have z10 := h10.sz0
  have z11 := h11.size
  have z10' := s10.size
  have z11' := s11.size
  obtain ⟨vx, evx⟩ : ∃ v, v = Value.slice (some ⟨gx, 0, none⟩) n n := ⟨_, rfl⟩
  obtain ⟨vy, evy⟩ : ∃ v, v = Value.slice (some ⟨gy, 0, none⟩) n n := ⟨_, rfl⟩
  rw [← evx] at o10 ⊢
  rw [← evy] at o11 ⊢
  have hvx : ∀ g, vx.ownBlock = some g → g < w11.heap.size := fun g hg => by have := (o10.lt g hg).2; omega
  have hvy : ∀ g, vy.ownBlock = some g → g < w11'.heap.size := fun g hg => (o11.lt g hg).2
  obtain ⟨Bx, eBx⟩ : ∃ b, b = w10.heap.size := ⟨_, rfl⟩
  obtain ⟨By, eBy⟩ : ∃ b, b = w11.heap.size := ⟨_, rfl⟩
  obtain ⟨B2, eB2⟩ : ∃ b, b = w11'.heap.size := ⟨_, rfl⟩
  rw [← eBx] at o10 lo0 lo1 z10
  rw [← eBy] at o11 hvx
  rw [← eB2] at hvy
  have zBy : Bx ≤ By := by omega
  have zB2 : By ≤ B2 := by omega
  refine ⟨fun q w => ∃ i r t, q = [r, .bool t, J i] ∧ i ≤ n ∧ SoI X n la lc vx vy Bx By B2 i r t w, fun q _ => match q with | [_, _, i] => n - intNat i | _ => 0,
    fun w hw => ⟨0, _, true, rfl, Nat.zero_le _, ⟨hw.kn, by rw [padL_zero]; exact own_stp0 o10 (su11.trans0 hw.stp), by rw [padL_zero]; exact own_stp0 o11 hw.stp, ⟨[], World.ownsRow_nil _ _ _ _, fun k q h => by simp at h⟩, by rw [eB2]; exact hw.size, by simp⟩⟩, ?_⟩
  rintro r _ _ w ⟨i, r0, t, he, hi, hI⟩
  simp only [List.cons.injEq, and_true] at he
  obtain ⟨rfl, rfl, rfl⟩ := he
  rw [ask_lssN]
  refine a_ifD (fun hlt => ?_) fun hge => ?_
  · rw [ask_succ (by omega)]
    refine a_make (n := i + 1) hX hP tyS' rfl rfl (by omega) (by simp only [maxLen]; omega) fun gu w18 w18' h18 k18 s18 su18 o18 => ?_
    rw [makeS] at o18
    have z18 := h18.size
    have z18' := s18.size
    have hIsz := hI.sz
    refine call_PE hS (T := Tso) (f := 7) rfl 1 (show 1 < B64 by decide) ?_
    refine a_iadN hP tyS' (own_slAt o18) (Nat.lt_succ_self i) ?_
    refine a_store (vs := encS 1) hX hP szS rfl rfl rfl rfl (one_encS 1) o18 h18.sz0 (by omega) (by decide) (fun _ _ => List.not_mem_nil) (fun w4 hw4 g hg hm => by
      have hq := o18.lt g hg
      simp only [kb3_0, List.map_cons, List.map_nil, List.mem_cons, List.not_mem_nil, or_false] at hm
      omega) fun _ w21 w21' h21 k21 s21 su21 o21 => ?_
    rw [lset_flat encS_len _ _ _ (by simp)] at o21
    have eu : (List.replicate (i + 1) 0).set i 1 = unitL i := unit_setS i
    rw [eu] at o21
    have offU : ∀ {g : Nat}, g < w18.heap.size → g ∉ (Value.slice (some ⟨gu, 0, none⟩) (i + 1) (i + 1)).ownBlock.toList := fun {g} hg hm => by
      simp only [Value.ownBlock, Option.toList_some, List.mem_singleton] at hm
      have := (o18.lt gu rfl).1
      omega
    have hI1 := hI.stp su18 k18
    have bx : ∀ g, vx.ownBlock = some g → g < w18.heap.size := fun g hg => by have := hvx g hg; omega
    have by_ : ∀ g, vy.ownBlock = some g → g < w18.heap.size := fun g hg => by have := hvy g hg; omega
    obtain ⟨vs, hrow, hvs⟩ := hI1.row
    obtain ⟨_, hrow0, hvs0⟩ := hI.row
    have hI2 : SoJ X n la lc vx vy Bx By B2 i i i r w21' := ⟨k21, own_stp hI1.rx su21 fun g hg => offU (bx g hg), own_stp hI1.ry su21 fun g hg => offU (by_ g hg),
      let ⟨vs, a, b⟩ := hI.row; ⟨vs, own_stp (own_stp0 a su18) su21 (fun g hg => offU (by have := (a.lt g hg).2; omega)), fun k q hq => own_stp (own_stp0 (b k q hq) su18) su21 (fun g hg => offU (by have := ((b k q hq).lt g hg).2; omega))⟩, Nat.le_trans hI1.sz su21.size⟩
    refine a_plain rfl ?_
    refine a_build #[.slice (some ⟨gu, 0, none⟩) (i + 1) (i + 1)] hX hP tyFree (by decide) (by decide) (by kernel_rfl) rfl (by decide) fun gb w23 w23' h23 k23 s23 su23 o23 => ?_
    have hI3 := hI2.stp su23 k23
    have o21' := own_stp0 o21 su23
    obtain ⟨vs, hrow, hvs⟩ := hI3.row
    refine a_append (n := i) (m := 1) hX hP tyFree rfl rfl rfl (by decide) (by omega) hI3.sz hrow (fun w hw => (own_slAt o23).stp0 hw.stp) rfl (fun d hd => by
      simp only [List.mem_singleton] at hd
      rw [hd]; rfl) (fun _ _ => List.not_mem_nil) (fun w2 hw2 => own_not_kb hw2 (own_stp0 hrow hw2.stp) rfl) (by simp only [maxLen]; omega) (by omega) fun r' w24 w24' h24 k24 s24 su24 o24 _ => ?_
    have hI4 : SoJ X n la lc vx vy Bx By B2 (i + 1) i i r' w24' := ⟨k24, own_stp hI3.rx su24 (fun g hg => own_diff hI3.rx hrow (by decide) g hg), own_stp hI3.ry su24 (fun g hg => own_diff hI3.ry hrow (by decide) g hg),
      ⟨_, o24, fun k q hq => by
        rcases Nat.lt_or_ge k vs.length with h | h
        · rw [List.getElem?_append_left h] at hq
          exact own_stp (hvs k q hq) su24 (fun g hg => own_diff (hvs k q hq) hrow (by decide) g hg)
        · have hvl : vs.length = i := by have := hrow.1; omega
          have hk : k = i := by
            have := (List.getElem?_eq_some_iff.1 hq).1
            simp at this
            omega
          subst hk
          rw [List.getElem?_append_right h, hvl, Nat.sub_self] at hq
          simp at hq
          subst hq
          refine own_mono (own_stp (show w23'.ownsRow _ _ 4 _ _ _ from o21') su24 (fun g hg => own_diff o21' hrow (by decide) g hg)) (by omega)⟩, Nat.le_trans hI3.sz su24.size⟩
    refine a_len hP tyS' ha.1 ?_
    rw [ask_lssN]
    refine a_ifD (fun hla => ?_) fun hla => ?_
    · refine ld_S (l := la) hP hI4.k (ha.1.stp0 (hI4.k.stp0 hX)) rfl rfl hla (fun _ _ => List.not_mem_nil) ?_
      refine a_iadN hP tyS' (own_slAt hI4.rx) hlt ?_
      refine a_store (vs := encS la[i]) hX hP szS rfl rfl rfl rfl (one_encS _) hI4.rx (by omega) (by omega) (by decide) (fun _ _ => List.not_mem_nil) (fun w4 hw4 g hg hm => by
        have hq := hI4.rx.lt g hg
        simp only [kb3_0, List.map_cons, List.map_nil, List.mem_cons, List.not_mem_nil, or_false] at hm
        omega) fun _ w30 w30' h30 k30 s30 su30 o30 => ?_
      rw [lset_flat encS_len _ _ _ (by rw [padL_len]; exact hlt), padL_set _ _ _ hla] at o30
      have offX : ∀ {g : Nat}, By ≤ g → g ∉ vx.ownBlock.toList := fun {g} hg hm => by
        obtain ⟨g', hg'⟩ := own_some hI4.rx hn0
        rw [hg'] at hm
        simp at hm
        have := hvx g' hg'
        omega
      have hI5 : SoJ X n la lc vx vy Bx By B2 (i + 1) (i + 1) i r' w30' := ⟨k30, o30, own_stp hI4.ry su30 (fun g hg => offX (hI4.ry.lt g hg).1),
        let ⟨vs, a, b⟩ := hI4.row; ⟨vs, own_stp a su30 (fun g hg => offX (by have := (a.lt g hg).1; omega)), fun k q hq => own_stp (b k q hq) su30 (fun g hg => offX (by have := ((b k q hq).lt g hg).1; omega))⟩, Nat.le_trans hI4.sz su30.size⟩
      refine a_len hP tyS' hb.1 ?_
      rw [ask_lssN]
      refine a_ifD (fun hlb => ?_) fun hlb => ?_
      · refine ld_S (l := lc) hP hI5.k (hb.1.stp0 (hI5.k.stp0 hX)) rfl rfl hlb (fun _ _ => List.not_mem_nil) ?_
        refine a_iadN hP tyS' (own_slAt hI5.ry) hlt ?_
        refine a_store (vs := encS lc[i]) hX hP szS rfl rfl rfl rfl (one_encS _) hI5.ry (by omega) (by omega) (by decide) (fun _ _ => List.not_mem_nil) (fun w4 hw4 g hg hm => by
          have hq := hI5.ry.lt g hg
          simp only [kb3_0, List.map_cons, List.map_nil, List.mem_cons, List.not_mem_nil, or_false] at hm
          omega) fun _ w31 w31' h31 k31 s31 su31 o31 => ?_
        rw [lset_flat encS_len _ _ _ (by rw [padL_len]; exact hlt), padL_set _ _ _ hlb] at o31
        have hJ : SoJ X n la lc vx vy Bx By B2 (i + 1) (i + 1) (i + 1) _ w31' := ⟨k31, own_stp hI5.rx su31 (fun g hg hm => by
            have h1 := hvx g hg
            obtain ⟨g', hg'⟩ := own_some hI5.ry hn0
            rw [hg'] at hm
            simp at hm
            have := (hI5.ry.lt g' hg').1
            omega), o31, let ⟨vs, a, b⟩ := hI5.row; ⟨vs, own_stp a su31 (fun g hg hm => by
            obtain ⟨g', hg'⟩ := own_some hI5.ry hn0
            rw [hg'] at hm
            simp at hm
            have := (a.lt g hg).1
            have := hvy g' hg'
            omega), fun k q hq => own_stp (b k q hq) su31 (fun g hg hm => by
            obtain ⟨g', hg'⟩ := own_some hI5.ry hn0
            rw [hg'] at hm
            simp at hm
            have := ((b k q hq).lt g hg).1
            have := hvy g' hg'
            omega)⟩, Nat.le_trans hI5.sz su31.size⟩
        -- all is stored: the same?
        refine sole_pair (T := Tso) hP hS rfl hJ.k (own_slAt hJ.rx) (own_slAt hJ.ry) (padL_len _ _ _) (padL_len _ _ _) (padL_ok ha.2 _ _) (padL_ok hb.2 _ _) hlt t fun t1 ht1 => ?_
        rw [ask_succ (by omega)]
        intro w40 hw40
        refine ⟨⟨i + 1, _, t1, rfl, hlt, ⟨(hJ.stp hw40.stp hw40.kn).k, own_stp0 hJ.rx hw40.stp, own_stp0 hJ.ry hw40.stp, (hJ.stp hw40.stp hw40.kn).row, (hJ.stp hw40.stp hw40.kn).sz, ?_⟩⟩, by simp [intNat]; omega⟩
        rw [ht1, hI.same, padL_get _ _ _ _ hlt (Nat.lt_succ_self i), padL_get _ _ _ _ hlt (Nat.lt_succ_self i)]
        constructor
        · rintro ⟨q1, q2⟩ j hj
          rcases Nat.lt_succ_iff_lt_or_eq.1 hj with h | rfl
          · exact q1 j h
          · exact q2
        · intro q
          exact ⟨fun j hj => q j (by omega), q i (by omega)⟩
      · have hJ : SoJ X n la lc vx vy Bx By B2 (i + 1) (i + 1) (i + 1) _ _ := ⟨hI5.k, hI5.rx, by rw [padL_end _ _ _ (Nat.le_of_not_lt hlb)]; exact hI5.ry, hI5.row, hI5.sz⟩
        -- all is stored: the same?
        refine sole_pair (T := Tso) hP hS rfl hJ.k (own_slAt hJ.rx) (own_slAt hJ.ry) (padL_len _ _ _) (padL_len _ _ _) (padL_ok ha.2 _ _) (padL_ok hb.2 _ _) hlt t fun t1 ht1 => ?_
        rw [ask_succ (by omega)]
        intro w40 hw40
        refine ⟨⟨i + 1, _, t1, rfl, hlt, ⟨(hJ.stp hw40.stp hw40.kn).k, own_stp0 hJ.rx hw40.stp, own_stp0 hJ.ry hw40.stp, (hJ.stp hw40.stp hw40.kn).row, (hJ.stp hw40.stp hw40.kn).sz, ?_⟩⟩, by simp [intNat]; omega⟩
        rw [ht1, hI.same, padL_get _ _ _ _ hlt (Nat.lt_succ_self i), padL_get _ _ _ _ hlt (Nat.lt_succ_self i)]
        constructor
        · rintro ⟨q1, q2⟩ j hj
          rcases Nat.lt_succ_iff_lt_or_eq.1 hj with h | rfl
          · exact q1 j h
          · exact q2
        · intro q
          exact ⟨fun j hj => q j (by omega), q i (by omega)⟩
    · have hI5 : SoJ X n la lc vx vy Bx By B2 (i + 1) (i + 1) i r' w24' := ⟨hI4.k, by rw [padL_end _ _ _ (Nat.le_of_not_lt hla)]; exact hI4.rx, hI4.ry, hI4.row, hI4.sz⟩
      refine a_len hP tyS' hb.1 ?_
      rw [ask_lssN]
      refine a_ifD (fun hlb => ?_) fun hlb => ?_
      · refine ld_S (l := lc) hP hI5.k (hb.1.stp0 (hI5.k.stp0 hX)) rfl rfl hlb (fun _ _ => List.not_mem_nil) ?_
        refine a_iadN hP tyS' (own_slAt hI5.ry) hlt ?_
        refine a_store (vs := encS lc[i]) hX hP szS rfl rfl rfl rfl (one_encS _) hI5.ry (by omega) (by omega) (by decide) (fun _ _ => List.not_mem_nil) (fun w4 hw4 g hg hm => by
          have hq := hI5.ry.lt g hg
          simp only [kb3_0, List.map_cons, List.map_nil, List.mem_cons, List.not_mem_nil, or_false] at hm
          omega) fun _ w31 w31' h31 k31 s31 su31 o31 => ?_
        rw [lset_flat encS_len _ _ _ (by rw [padL_len]; exact hlt), padL_set _ _ _ hlb] at o31
        have hJ : SoJ X n la lc vx vy Bx By B2 (i + 1) (i + 1) (i + 1) _ w31' := ⟨k31, own_stp hI5.rx su31 (fun g hg hm => by
            have h1 := hvx g hg
            obtain ⟨g', hg'⟩ := own_some hI5.ry hn0
            rw [hg'] at hm
            simp at hm
            have := (hI5.ry.lt g' hg').1
            omega), o31, let ⟨vs, a, b⟩ := hI5.row; ⟨vs, own_stp a su31 (fun g hg hm => by
            obtain ⟨g', hg'⟩ := own_some hI5.ry hn0
            rw [hg'] at hm
            simp at hm
            have := (a.lt g hg).1
            have := hvy g' hg'
            omega), fun k q hq => own_stp (b k q hq) su31 (fun g hg hm => by
            obtain ⟨g', hg'⟩ := own_some hI5.ry hn0
            rw [hg'] at hm
            simp at hm
            have := ((b k q hq).lt g hg).1
            have := hvy g' hg'
            omega)⟩, Nat.le_trans hI5.sz su31.size⟩
        -- all is stored: the same?
        refine sole_pair (T := Tso) hP hS rfl hJ.k (own_slAt hJ.rx) (own_slAt hJ.ry) (padL_len _ _ _) (padL_len _ _ _) (padL_ok ha.2 _ _) (padL_ok hb.2 _ _) hlt t fun t1 ht1 => ?_
        rw [ask_succ (by omega)]
        intro w40 hw40
        refine ⟨⟨i + 1, _, t1, rfl, hlt, ⟨(hJ.stp hw40.stp hw40.kn).k, own_stp0 hJ.rx hw40.stp, own_stp0 hJ.ry hw40.stp, (hJ.stp hw40.stp hw40.kn).row, (hJ.stp hw40.stp hw40.kn).sz, ?_⟩⟩, by simp [intNat]; omega⟩
        rw [ht1, hI.same, padL_get _ _ _ _ hlt (Nat.lt_succ_self i), padL_get _ _ _ _ hlt (Nat.lt_succ_self i)]
        constructor
        · rintro ⟨q1, q2⟩ j hj
          rcases Nat.lt_succ_iff_lt_or_eq.1 hj with h | rfl
          · exact q1 j h
          · exact q2
        · intro q
          exact ⟨fun j hj => q j (by omega), q i (by omega)⟩
      · have hJ : SoJ X n la lc vx vy Bx By B2 (i + 1) (i + 1) (i + 1) _ _ := ⟨hI5.k, hI5.rx, by rw [padL_end _ _ _ (Nat.le_of_not_lt hlb)]; exact hI5.ry, hI5.row, hI5.sz⟩
        -- all is stored: the same?
        refine sole_pair (T := Tso) hP hS rfl hJ.k (own_slAt hJ.rx) (own_slAt hJ.ry) (padL_len _ _ _) (padL_len _ _ _) (padL_ok ha.2 _ _) (padL_ok hb.2 _ _) hlt t fun t1 ht1 => ?_
        rw [ask_succ (by omega)]
        intro w40 hw40
        refine ⟨⟨i + 1, _, t1, rfl, hlt, ⟨(hJ.stp hw40.stp hw40.kn).k, own_stp0 hJ.rx hw40.stp, own_stp0 hJ.ry hw40.stp, (hJ.stp hw40.stp hw40.kn).row, (hJ.stp hw40.stp hw40.kn).sz, ?_⟩⟩, by simp [intNat]; omega⟩
        rw [ht1, hI.same, padL_get _ _ _ _ hlt (Nat.lt_succ_self i), padL_get _ _ _ _ hlt (Nat.lt_succ_self i)]
        constructor
        · rintro ⟨q1, q2⟩ j hj
          rcases Nat.lt_succ_iff_lt_or_eq.1 hj with h | rfl
          · exact q1 j h
          · exact q2
        · intro q
          exact ⟨fun j hj => q j (by omega), q i (by omega)⟩
  · obtain rfl : i = n := by omega
    obtain ⟨vs, hrow, hvs⟩ := hI.row
    obtain ⟨pr, cr, rfl, _⟩ := slAt_form (own_slAt hrow)
    have hB2 := hI.sz
    refine a_build #[.slice pr i cr] hX hP tyLF (by decide) (by decide) (by kernel_rfl) rfl (by decide) fun gq w17 w17' h17 k17 s17 su17 o17 => ?_
    have z17 := h17.size
    have z17' := s17.size
    refine a_plain rfl ?_
    refine a_plain (slAt_one hl.1) ?_
    refine a_build #[xl] hX hP tyFree (by decide) (by decide) (by kernel_rfl) rfl (by decide) fun gi w20 w20' h20 k20 s20 su20 o20 => ?_
    have z20 := h20.size
    refine a_plain rfl ?_
    have R17 := own_stp o17 su20 (off_own o17 (all1 (by omega)))
    have Rrow' := own_stp0 hrow su17
    have Rrow := own_stp Rrow' su20 (off_own Rrow' (all1 (by omega)))
    have Rvs : ∀ (k : Nat) (q : Value), vs[k]? = some q → Uw 25 B2 w20' q k := fun k q hq => by
      have h := own_stp0 (hvs k q hq) su17
      exact own_stp h su20 (off_own h (all1 (by omega)))
    have Rx' := own_stp0 hI.rx su17
    have Rx := own_stp Rx' su20 (off_own Rx' (all1 lo1))
    have Ry' := own_stp0 hI.ry su17
    have Ry := own_stp Ry' su20 (off_own Ry' (all1 (by omega)))
    have unl : (unitsL 0 i).length = i := by simp [unitsL]
    have hvl : vs.length = i := by have := hrow.1; omega
    have rdC : ∀ w, Stp [b1] w20' w → Kn X w → cClF.rd w (.agg #[.slice (some ⟨gq, 0, none⟩) 1 1, .slice (some ⟨gi, 0, none⟩) 1 1]) (unitsL 0 i, ll) := fun w hs hk =>
      ⟨_, _, .slice pr i cr, xl, rfl, own_slAt (own_stp R17 hs (off_own R17 (all1 (by omega)))), own_slAt (own_stp o20 hs (off_own o20 (all1 (by omega)))),
        ⟨vs, by rw [unl]; exact own_slAt (own_stp Rrow hs (off_own Rrow (all1 (by omega)))), by rw [unl]; exact hvl, fun k q l hq hl => by
          have h := Rvs k q hq
          rw [units_get hl, Nat.zero_add]
          exact Uw.rd (own_stp h hs (off_own h (all1 (by omega))))⟩, hl.stp0 (hk.stp0 hX)⟩
    have rdX : ∀ w, Stp [b1] w20' w → cLS.rd w vx (padL la i i) := fun w hs => (show Ls encS okS w vx _ from ⟨by rw [padL_len]; exact own_slAt (own_stp Rx hs (off_own Rx (all1 lo1))), padL_ok ha.2 _ _⟩)
    have rdY : ∀ w, Stp [b1] w20' w → cLS.rd w vy (padL lc i i) := fun w hs => (show Ls encS okS w vy _ from ⟨by rw [padL_len]; exact own_slAt (own_stp Ry hs (off_own Ry (all1 (by omega)))), padL_ok hb.2 _ _⟩)
    have hG : ∀ l ∈ unitsL 0 i, l.length ≤ mx := fun l hl => by
      obtain ⟨k, hk⟩ := List.getElem?_of_mem hl
      have hki := (List.getElem?_eq_some_iff.1 hk).1
      rw [unl] at hki
      rw [units_get hk, unit_len]
      simp only [mx]; omega
    have hL : ll.length ≤ mx := Nat.le_trans hpre (by decide)
    have preX : preF (unitsL 0 i) ll (padL la i i) := ⟨by rw [unl, padL_len], by rw [padL_len]; omega, hG, hL⟩
    have preY : preF (unitsL 0 i) ll (padL lc i i) := ⟨by rw [unl, padL_len], by rw [padL_len]; omega, hG, hL⟩
    have p0x : 0 < (padL la i i).length := by rw [padL_len]; exact hn0
    have p0y : 0 < (padL lc i i).length := by rw [padL_len]; exact hn0
    refine call_W hX hS (T := Tso) (f := 9) rfl ((unitsL 0 i, ll), c, padL la i i, ()) (fun w hw => ⟨⟨_, _, rfl, rdC w hw.stp hw.kn, _, _, rfl, ⟨rfl, hc⟩, _, _, rfl, rdX w hw.stp, rfl⟩, preX, p0x⟩) fun v22 w22 w22' h22 k22 s22 su22 hv => ?_
    obtain ⟨o, rfl, hO⟩ := hv
    dsimp only at hO
    have hO' := hO.rd (msgF_lt _ _ _ _)
    rw [ask_ext (v := o) rfl, ask_ext (v := J 0) rfl]
    refine call_W hX hS (T := Tso) (f := 10) rfl () (fun w hw => ⟨rfl, trivial⟩) fun v25 w25 w25' h25 k25 s25 su25 hv25 => ?_
    obtain rfl := hv25
    rw [ask_not, Bool.not_true]
    refine a_G_on condsV1 ?_
    rw [ask_neqN, decide_eq_true rfl, Bool.not_true, ask_pickF]
    refine a_GW_on condsV1 (call_W hX hS (T := Tso) (f := 11) rfl ((unitsL 0 i, ll), [msgF (unitsL 0 i) ll c (padL la i i)], c, padL la i i, ()) (fun w hw => ⟨⟨_, _, rfl, rdC w (su22.trans (su25.trans0 hw.stp)) hw.kn, _, _, rfl, cLLS_stable _ _ _ _ (su25.trans0 hw.stp) hO', _, _, rfl, ⟨rfl, hc⟩, _, _, rfl, rdX w (su22.trans (su25.trans0 hw.stp)), rfl⟩, ⟨preX, p0x⟩, _, rfl, msgF_len _ _ _ _ hG hL⟩) fun v29 w29 w29' h29 k29 s29 su29 hv => ?_)
    obtain ⟨t1, rfl, ht1⟩ := hv
    have et1 : t1 = true := (ht1 _ rfl).2 fun _ => rfl
    subst et1
    rw [if_pos rfl]
    refine a_G_on condsV1 ?_
    rw [ask_neqN, decide_eq_true rfl, Bool.not_true, ask_pickF]
    refine a_if (fun h => by cases h) fun _ => ?_
    refine call_W hX hS (T := Tso) (f := 11) rfl ((unitsL 0 i, ll), [msgF (unitsL 0 i) ll c (padL la i i)], c, padL lc i i, ()) (fun w hw => ⟨⟨_, _, rfl, rdC w (su22.trans (su25.trans0 (su29.trans0 hw.stp))) hw.kn, _, _, rfl, cLLS_stable _ _ _ _ (su25.trans0 (su29.trans0 hw.stp)) hO', _, _, rfl, ⟨rfl, hc⟩, _, _, rfl, rdY w (su22.trans (su25.trans0 (su29.trans0 hw.stp))), rfl⟩, ⟨preY, p0y⟩, _, rfl, msgF_len _ _ _ _ hG hL⟩) fun v32 w32 w32' h32 k32 s32 su32 hv => ?_
    obtain ⟨t2, rfl, ht2⟩ := hv
    have ht2' := ht2 _ rfl
    dsimp only at ht2'
    rw [sole_law i ll c _ _ (padL_len _ _ _) (padL_len _ _ _)] at ht2'
    have e2 : t2 = t := by
      rw [Bool.eq_iff_iff, ht2', hI.same]
      constructor
      · intro q j hj
        have := q j hj
        rwa [padL_get _ _ _ _ hj hj, padL_get _ _ _ _ hj hj] at this
      · intro q j hj
        rw [padL_get _ _ _ _ hj hj, padL_get _ _ _ _ hj hj]
        exact q j hj
    subst e2
    rw [ask_eqlN]
    refine a_eqlBoolS hP ?_
    refine hR _ _ _ _ fun _ _ => congrArg Value.bool ?_
    cases t2 <;> rfl
#print axioms keepsSole
end Go.Vc
