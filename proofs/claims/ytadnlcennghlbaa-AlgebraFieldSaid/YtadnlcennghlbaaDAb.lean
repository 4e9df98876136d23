/-
  The methods of Pair and Seven.
-/
import Derived.Test.YtadnlcennghlbaaDAa
import Derived.KernelRfl
import Derived.Test.YtadnlcennghlbaaProg
namespace Go.Vc
open Go Go.Proofs Go.RowKit
def GA (_ : World) : Prop := True
theorem hGA : ∀ w0 w : World, GA w0 → (∀ b, b < w0.heap.size → w.heap[b]? = w0.heap[b]?) → w0.heap.size ≤ w.heap.size → GA w := fun _ _ _ _ _ => trivial
theorem hMix : Try.prog.follows .mixedOrders = true := by kernel_rfl
def TA0 : Table := fun _ => {}
theorem keepTA0 : AllKeep Try.prog GA TA0 := AllKeep.none _ _
/-! ### whole numbers -/
theorem tmod7 (a : Int) : -7 < a.tmod 7 ∧ a.tmod 7 < 7 := by
  rcases Int.eq_nat_or_neg a with ⟨n, h | h⟩
  · subst h; rw [show (n : Int).tmod 7 = ((n % 7 : Nat) : Int) from rfl]; omega
  · subst h; rw [Int.neg_tmod, show (n : Int).tmod 7 = ((n % 7 : Nat) : Int) from rfl]; omega
theorem tmod7_emod (a : Int) : (a.tmod 7 + 7).tmod 7 = a % 7 := by
  rcases Int.eq_nat_or_neg a with ⟨n, h | h⟩
  · subst h; rw [show (n : Int).tmod 7 = ((n % 7 : Nat) : Int) from rfl, show ((n % 7 : Nat) : Int) + 7 = ((n % 7 + 7 : Nat) : Int) by omega, show ((n % 7 + 7 : Nat) : Int).tmod 7 = (((n % 7 + 7) % 7 : Nat) : Int) from rfl]; omega
  · subst h
    have h1 : ∃ k : Nat, (-(n : Int)).tmod 7 + 7 = (k : Int) ∧ (k : Int) = 7 - ((n % 7 : Nat) : Int) := by
      rw [Int.neg_tmod, show (n : Int).tmod 7 = ((n % 7 : Nat) : Int) from rfl]
      exact ⟨7 - n % 7, by omega, by omega⟩
    obtain ⟨k, h1, h2⟩ := h1
    rw [h1, show (k : Int).tmod 7 = ((k % 7 : Nat) : Int) from rfl]
    omega
section
variable {P : Program} {K : Value → Prop} {t : TypeId} {cx cy : Bool}
theorem ask_remC {a : Int} {b : Nat} (hb : 0 < b) : Ask (rBin P .rem t cx cy (.int .i64 a) (J b)) K = K (.int .i64 (a.tmod b)) :=
  ask_eq (runs_iff fun w => by
    have h3 : ¬ ((b : Int) = 0) := by omega
    simp only [binSem, eqGuard, binOp, Op.intDiv, h3, if_false]
    rfl)
theorem ask_rem7 {a : Int} : Ask (rBin P .rem t cx cy (.int .i64 a) (J 7)) K = K (.int .i64 (a.tmod 7)) := ask_remC (by decide)
theorem ask_addI {a b : Int} (h : -(2 ^ 63) ≤ a + b ∧ a + b < 2 ^ 63) : Ask (rBin P .add t cx cy (.int .i64 a) (.int .i64 b)) K = K (.int .i64 (a + b)) := by rw [ask_add, wrap_i64 h.1 h.2]
theorem ask_subI {a b : Int} (h : -(2 ^ 63) ≤ a - b ∧ a - b < 2 ^ 63) : Ask (rBin P .sub t cx cy (.int .i64 a) (.int .i64 b)) K = K (.int .i64 (a - b)) := by rw [ask_sub, wrap_i64 h.1 h.2]
theorem ask_mulI {a b : Int} (h : -(2 ^ 63) ≤ a * b ∧ a * b < 2 ^ 63) : Ask (rBin P .mul t cx cy (.int .i64 a) (.int .i64 b)) K = K (.int .i64 (a * b)) := by rw [ask_mul, wrap_i64 h.1 h.2]
theorem ask_eqlI {a b : Int} : Ask (rBin P .eql t cx cy (.int .i64 a) (.int .i64 b)) K = K (.bool (decide (a = b))) := by
  rw [ask_eql]; congr 2
theorem ask_eql0 {a : Int} : Ask (rBin P .eql t cx cy (.int .i64 a) (J 0)) K = K (.bool (decide (a = 0))) := ask_eqlI (b := 0)
theorem ask_eql1 {a : Int} : Ask (rBin P .eql t cx cy (.int .i64 a) (J 1)) K = K (.bool (decide (a = 1))) := ask_eqlI (b := 1)
theorem ask_neqI {a b : Int} : Ask (rBin P .neq t cx cy (.int .i64 a) (.int .i64 b)) K = K (.bool (!decide (a = b))) := by
  rw [ask_neq]; congr 2
end
theorem mul_bd {a b c : Int} (ha : -c < a ∧ a < c) (hb : -c < b ∧ b < c) (hc : c ≤ 1000) : -(2 ^ 63) ≤ a * b ∧ a * b < 2 ^ 63 := by
  have h1 : (a * b).natAbs ≤ 1000 * 1000 := by
    rw [Int.natAbs_mul]
    exact Nat.mul_le_mul (by omega) (by omega)
  omega
/-! ### Pair -/
abbrev Z2 : Type := Int × Int
def fi7 (a : Z2) : Rm 7 := rI 7 a.2
theorem ask_mkI {P : Program} {K : Value → Prop} {t a ty : Nat} {x : Value} (h : ∀ w, (Instr.makeInterface t x).run P w = .ok (.iface t x) w) : Ask (rGen P (.makeInterface t (.tmp a)) ty [(a, x)]) K = K (.iface t x) :=
  ask_eq (runsN_iff fun w => by simp [execOp, argsFn, h])
/-! ### Seven -/
abbrev S7 (a : Int) : Value := .agg [.int .i64 a].toArray
def encS7 (a : Int) : List Value := [.int .i64 a]
theorem encS7_len (a : Int) : (encS7 a).length = 1 := rfl
theorem one_encS7 (a : Int) : (encS7 a).all (·.oneCell') = true := rfl
theorem encS7_inj {p q : Int} (h : encS7 p = encS7 q) : p = q := by
  simpa [encS7] using h
theorem S7_inj {p q : Int} (h : S7 p = S7 q) : p = q := by simpa [S7] using h
def sR : Rg Int where
  add a b := a % 7 + b % 7
  sub a b := a % 7 - b % 7
  mul a b := a % 7 * (b % 7)
  one := 1
  zero := 0
def sInv (a : Int) : Int := if a % 7 * 1 % 7 = 1 then 1 else if a % 7 * 2 % 7 = 1 then 2 else if a % 7 * 3 % 7 = 1 then 3 else if a % 7 * 4 % 7 = 1 then 4 else if a % 7 * 5 % 7 = 1 then 5 else if a % 7 * 6 % 7 = 1 then 6 else 0
def fs7 (a : Int) : Rm 7 := rI 7 a
theorem r7e (a : Int) : rI 7 (a % 7) = rI 7 a := rI_emod (m := 7) a
theorem homS : sR.Hom fs7 where
  add a b := by show rI 7 _ = _; rw [sR, rI_add, r7e, r7e]; rfl
  sub a b := by show rI 7 _ = _; rw [sR, rI_sub, r7e, r7e]; rfl
  mul a b := by show rI 7 _ = _; rw [sR, rI_mul, r7e, r7e]; rfl
  one := rI_one
  zero := rI_zero
abbrev enc2S7 (p : Int × Int) : List Value := [S7 p.1, S7 p.2]
abbrev enc1S7 (p : Int) : List Value := [S7 p]
theorem inj2S7 (p q : Int × Int) (_ : True) (_ : True) (h : enc2S7 p = enc2S7 q) : p = q := by
  simp only [enc2S7, List.cons.injEq, and_true] at h
  exact Prod.ext (S7_inj h.1) (S7_inj h.2)
theorem inj1S7 (p q : Int) (_ : True) (_ : True) (h : enc1S7 p = enc1S7 q) : p = q := by
  simp only [enc1S7, List.cons.injEq, and_true] at h
  exact S7_inj h
def c7r : Contract := fnP enc1S7 (fun _ => True) (fun p v => v = .int .i64 (p % 7))
def c7Add : Contract := fnP enc2S7 (fun _ => True) (fun p v => v = S7 (sR.add p.1 p.2))
def c7Sub : Contract := fnP enc2S7 (fun _ => True) (fun p v => v = S7 (sR.sub p.1 p.2))
def c7Mul : Contract := fnP enc2S7 (fun _ => True) (fun p v => v = S7 (sR.mul p.1 p.2))
def c7One : Contract := fnP enc1S7 (fun _ => True) (fun _ v => v = S7 sR.one)
def c7IsZ : Contract := fnP enc1S7 (fun _ => True) (fun p v => v = .bool (decide (p % 7 = 0)))
def c7Inv : Contract := fnP enc1S7 (fun _ => True) (fun p v => v = S7 (sInv p))
def ann10 : Ann := ⟨[], [], 70, [], [], none, [], []⟩
theorem vc10 (X : Ctx) (β : Nat → Nat) (x0 : Value) : (run Try.prog ann10 10 [.l [.v 0]] [] [] 2).den X (env0 [x0] X.w0) 2 β 0 (fun _ _ _ => False) = (
 AskNew X.w0 fun _ =>
 Ask (rBin X.P .rem 3 false true x0 (J 7)) fun x2 =>
 Ask (rBin X.P .add 3 false true x2 (J 7)) fun x3 =>
 Ask (rBin X.P .rem 3 false true x3 (J 7)) fun x4 =>
 Ret X X.w0 [] [] x4) := by kernel_rfl
def ann47 : Ann := ⟨[], [10], 70, [], [], none, [], []⟩
theorem vc47 (X : Ctx) (β : Nat → Nat) (x0 x1 : Value) : (run Try.prog ann47 47 [.l [.v 0], .l [.v 1]] [] [] 3).den X (env0 [x0, x1] X.w0) 3 β 0 (fun _ _ _ => False) = (
 AskNew X.w0 fun _ =>
 AskNew X.w0 fun _ =>
 AskNew X.w0 fun b2 =>
 AskF X 10 [(.agg #[x0])] fun x3 =>
 AskF X 10 [(.agg #[x1])] fun x4 =>
 Ask (rBin X.P .add 3 false false x3 x4) fun x5 =>
 Ask (rPlain x5) fun x6 =>
 Ask (rPlain x6) fun x7 =>
 Ret X X.w0 [b2] [] (.agg #[x7])) := by kernel_rfl
def ann52 : Ann := ⟨[], [10], 70, [], [], none, [], []⟩
theorem vc52 (X : Ctx) (β : Nat → Nat) (x0 x1 : Value) : (run Try.prog ann52 52 [.l [.v 0], .l [.v 1]] [] [] 3).den X (env0 [x0, x1] X.w0) 3 β 0 (fun _ _ _ => False) = (
 AskNew X.w0 fun _ =>
 AskNew X.w0 fun _ =>
 AskNew X.w0 fun b2 =>
 AskF X 10 [(.agg #[x0])] fun x3 =>
 AskF X 10 [(.agg #[x1])] fun x4 =>
 Ask (rBin X.P .sub 3 false false x3 x4) fun x5 =>
 Ask (rPlain x5) fun x6 =>
 Ask (rPlain x6) fun x7 =>
 Ret X X.w0 [b2] [] (.agg #[x7])) := by kernel_rfl
def ann50 : Ann := ⟨[], [10], 70, [], [], none, [], []⟩
theorem vc50 (X : Ctx) (β : Nat → Nat) (x0 x1 : Value) : (run Try.prog ann50 50 [.l [.v 0], .l [.v 1]] [] [] 3).den X (env0 [x0, x1] X.w0) 3 β 0 (fun _ _ _ => False) = (
 AskNew X.w0 fun _ =>
 AskNew X.w0 fun _ =>
 AskNew X.w0 fun b2 =>
 AskF X 10 [(.agg #[x0])] fun x3 =>
 AskF X 10 [(.agg #[x1])] fun x4 =>
 Ask (rBin X.P .mul 3 false false x3 x4) fun x5 =>
 Ask (rPlain x5) fun x6 =>
 Ask (rPlain x6) fun x7 =>
 Ret X X.w0 [b2] [] (.agg #[x7])) := by kernel_rfl
def ann49 : Ann := ⟨[], [10], 70, [], [], none, [], []⟩
theorem vc49 (X : Ctx) (β : Nat → Nat) (x0 : Value) : (run Try.prog ann49 49 [.l [.v 0]] [] [] 2).den X (env0 [x0] X.w0) 2 β 0 (fun _ _ _ => False) = (
 AskNew X.w0 fun _ =>
 AskF X 10 [(.agg #[x0])] fun x2 =>
 Ask (rBin X.P .eql 3 false true x2 (J 0)) fun x3 =>
 Ret X X.w0 [] [] x3) := by kernel_rfl
def ann51 : Ann := ⟨[], [10], 70, [], [], none, [], []⟩
theorem vc51 (X : Ctx) (β : Nat → Nat) (x0 : Value) : (run Try.prog ann51 51 [.l [.v 0]] [] [] 2).den X (env0 [x0] X.w0) 2 β 0 (fun _ _ _ => False) = (
 AskNew X.w0 fun _ =>
 AskNew X.w0 fun b1 =>
 Ret X X.w0 [b1] [] (.agg #[(J 1)])) := by kernel_rfl
def ann48 : Ann := ⟨[], [10], 70, [], [], none, [], []⟩
theorem vc48 (X : Ctx) (β : Nat → Nat) (x0 : Value) : (run Try.prog ann48 48 [.l [.v 0]] [] [] 2).den X (env0 [x0] X.w0) 2 β 0 (fun _ _ _ => False) = (
 AskNew X.w0 fun _ =>
 AskNew X.w0 fun b1 =>
 AskF X 10 [(.agg #[x0])] fun x2 =>
 Ask (rBin X.P .mul 3 false false x2 (J 1)) fun x3 =>
 Ask (rBin X.P .rem 3 false true x3 (J 7)) fun x4 =>
 Ask (rBin X.P .eql 3 false true x4 (J 1)) fun x5 =>
 (∃ t, x5 = .bool t) ∧ (x5 = .bool true →
 Ret X X.w0 [b1] [] (.agg #[(J 1)])) ∧ (x5 = .bool false →
 AskF X 10 [(.agg #[x0])] fun x6 =>
 Ask (rBin X.P .mul 3 false false x6 (J 2)) fun x7 =>
 Ask (rBin X.P .rem 3 false true x7 (J 7)) fun x8 =>
 Ask (rBin X.P .eql 3 false true x8 (J 1)) fun x9 =>
 (∃ t, x9 = .bool t) ∧ (x9 = .bool true →
 Ret X X.w0 [b1] [] (.agg #[(J 2)])) ∧ (x9 = .bool false →
 AskF X 10 [(.agg #[x0])] fun x10 =>
 Ask (rBin X.P .mul 3 false false x10 (J 3)) fun x11 =>
 Ask (rBin X.P .rem 3 false true x11 (J 7)) fun x12 =>
 Ask (rBin X.P .eql 3 false true x12 (J 1)) fun x13 =>
 (∃ t, x13 = .bool t) ∧ (x13 = .bool true →
 Ret X X.w0 [b1] [] (.agg #[(J 3)])) ∧ (x13 = .bool false →
 AskF X 10 [(.agg #[x0])] fun x14 =>
 Ask (rBin X.P .mul 3 false false x14 (J 4)) fun x15 =>
 Ask (rBin X.P .rem 3 false true x15 (J 7)) fun x16 =>
 Ask (rBin X.P .eql 3 false true x16 (J 1)) fun x17 =>
 (∃ t, x17 = .bool t) ∧ (x17 = .bool true →
 Ret X X.w0 [b1] [] (.agg #[(J 4)])) ∧ (x17 = .bool false →
 AskF X 10 [(.agg #[x0])] fun x18 =>
 Ask (rBin X.P .mul 3 false false x18 (J 5)) fun x19 =>
 Ask (rBin X.P .rem 3 false true x19 (J 7)) fun x20 =>
 Ask (rBin X.P .eql 3 false true x20 (J 1)) fun x21 =>
 (∃ t, x21 = .bool t) ∧ (x21 = .bool true →
 Ret X X.w0 [b1] [] (.agg #[(J 5)])) ∧ (x21 = .bool false →
 AskF X 10 [(.agg #[x0])] fun x22 =>
 Ask (rBin X.P .mul 3 false false x22 (J 6)) fun x23 =>
 Ask (rBin X.P .rem 3 false true x23 (J 7)) fun x24 =>
 Ask (rBin X.P .eql 3 false true x24 (J 1)) fun x25 =>
 (∃ t, x25 = .bool t) ∧ (x25 = .bool true →
 Ret X X.w0 [b1] [] (.agg #[(J 6)])) ∧ (x25 = .bool false →
 Ret X X.w0 [b1] [] (.agg #[(J 0)])))))))) := by kernel_rfl
theorem keeps7r : Keeps1 Try.prog GA 10 c7r := by
  refine keepsP (T := TA0) (A := ann10) inj1S7 hMix keepTA0 hGA (calls_of (by kernel_rfl)) (callsW_of (by kernel_rfl)) fun a w0 _ _ => ⟨[.l [.v 0]], [], [], 2, env0 [.int .i64 a] w0, fun b => b, 0, rfl, rfl, fun X hX => mem_none hX rfl, fun X hP hS hw hX hR => ?_⟩
  subst hw; try dsimp only at hR
  rw [vc10 X]
  intro _ _
  have h1 := tmod7 a
  rw [ask_rem7, ask_addI (by omega), show ((7 : Nat) : Int) = 7 from rfl, ask_rem7, tmod7_emod]
  exact hR _ _ _ _ rfl
def TA7 : Table := TA0.add 10 c7r
theorem keepTA7 : AllKeep Try.prog GA TA7 := keepTA0.add keeps7r
theorem p7r {X : Ctx} {K : Value → Prop} {T : Table} (hS : X.S = T.spec) (hT : T 10 = c7r) {a : Int} (hK : K (.int .i64 (a % 7))) : AskF X 10 [.agg #[.int .i64 a]] K := call_PE hS hT a trivial hK
theorem keeps7Add : Keeps1 Try.prog GA 47 c7Add := by
  refine keepsP (T := TA7) (A := ann47) inj2S7 hMix keepTA7 hGA (calls_of (by kernel_rfl)) (callsW_of (by kernel_rfl)) fun ⟨a, b⟩ w0 _ _ => ⟨[.l [.v 0], .l [.v 1]], [], [], 3, env0 [.int .i64 a, .int .i64 b] w0, fun b => b, 0, rfl, rfl, fun X hX => mem_none hX rfl, fun X hP hS hw hX hR => ?_⟩
  subst hw; try dsimp only at hR
  rw [vc47 X]
  intro _ _ _ _ _ _
  have h1 : -7 < a % 7 ∧ a % 7 < 7 := by omega
  have h2 : -7 < b % 7 ∧ b % 7 < 7 := by omega
  refine p7r hS rfl (p7r hS rfl ?_)
  rw [ask_addI (by omega)]
  iterate 2 refine a_plain rfl ?_
  exact hR _ _ _ _ rfl
theorem keeps7Sub : Keeps1 Try.prog GA 52 c7Sub := by
  refine keepsP (T := TA7) (A := ann52) inj2S7 hMix keepTA7 hGA (calls_of (by kernel_rfl)) (callsW_of (by kernel_rfl)) fun ⟨a, b⟩ w0 _ _ => ⟨[.l [.v 0], .l [.v 1]], [], [], 3, env0 [.int .i64 a, .int .i64 b] w0, fun b => b, 0, rfl, rfl, fun X hX => mem_none hX rfl, fun X hP hS hw hX hR => ?_⟩
  subst hw; try dsimp only at hR
  rw [vc52 X]
  intro _ _ _ _ _ _
  have h1 : -7 < a % 7 ∧ a % 7 < 7 := by omega
  have h2 : -7 < b % 7 ∧ b % 7 < 7 := by omega
  refine p7r hS rfl (p7r hS rfl ?_)
  rw [ask_subI (by omega)]
  iterate 2 refine a_plain rfl ?_
  exact hR _ _ _ _ rfl
theorem keeps7Mul : Keeps1 Try.prog GA 50 c7Mul := by
  refine keepsP (T := TA7) (A := ann50) inj2S7 hMix keepTA7 hGA (calls_of (by kernel_rfl)) (callsW_of (by kernel_rfl)) fun ⟨a, b⟩ w0 _ _ => ⟨[.l [.v 0], .l [.v 1]], [], [], 3, env0 [.int .i64 a, .int .i64 b] w0, fun b => b, 0, rfl, rfl, fun X hX => mem_none hX rfl, fun X hP hS hw hX hR => ?_⟩
  subst hw; try dsimp only at hR
  rw [vc50 X]
  intro _ _ _ _ _ _
  have h1 : -7 < a % 7 ∧ a % 7 < 7 := by omega
  have h2 : -7 < b % 7 ∧ b % 7 < 7 := by omega
  refine p7r hS rfl (p7r hS rfl ?_)
  rw [ask_mulI (mul_bd h1 h2 (by decide))]
  iterate 2 refine a_plain rfl ?_
  exact hR _ _ _ _ rfl
theorem keeps7One : Keeps1 Try.prog GA 51 c7One := by
  refine keepsP (T := TA7) (A := ann51) inj1S7 hMix keepTA7 hGA (calls_of (by kernel_rfl)) (callsW_of (by kernel_rfl)) fun a w0 _ _ => ⟨[.l [.v 0]], [], [], 2, env0 [.int .i64 a] w0, fun b => b, 0, rfl, rfl, fun X hX => mem_none hX rfl, fun X hP hS hw hX hR => ?_⟩
  subst hw; try dsimp only at hR
  rw [vc51 X]
  intro _ _ _ _
  exact hR _ _ _ _ rfl
theorem keeps7IsZ : Keeps1 Try.prog GA 49 c7IsZ := by
  refine keepsP (T := TA7) (A := ann49) inj1S7 hMix keepTA7 hGA (calls_of (by kernel_rfl)) (callsW_of (by kernel_rfl)) fun a w0 _ _ => ⟨[.l [.v 0]], [], [], 2, env0 [.int .i64 a] w0, fun b => b, 0, rfl, rfl, fun X hX => mem_none hX rfl, fun X hP hS hw hX hR => ?_⟩
  subst hw; try dsimp only at hR
  rw [vc49 X]
  intro _ _
  refine p7r hS rfl ?_
  rw [ask_eql0]
  exact hR _ _ _ _ rfl
theorem emod7 {a : Int} (h : 0 ≤ a) : a.tmod ((7 : Nat) : Int) = a % 7 := Int.tmod_eq_emod_of_nonneg h
theorem keeps7Inv : Keeps1 Try.prog GA 48 c7Inv := by
  refine keepsP (T := TA7) (A := ann48) inj1S7 hMix keepTA7 hGA (calls_of (by kernel_rfl)) (callsW_of (by kernel_rfl)) fun a w0 _ _ => ⟨[.l [.v 0]], [], [], 2, env0 [.int .i64 a] w0, fun b => b, 0, rfl, rfl, fun X hX => mem_none hX rfl, fun X hP hS hw hX hR => ?_⟩
  subst hw; try dsimp only at hR
  rw [vc48 X]
  intro _ _ _ _
  have h1 : -(2 ^ 63) ≤ a % 7 * ((1 : Nat) : Int) ∧ a % 7 * ((1 : Nat) : Int) < 2 ^ 63 := by omega
  refine p7r hS rfl ?_
  rw [ask_mulI h1, ask_remC (by decide), emod7 (by omega), ask_eql1]
  refine a_ifD (fun e10 => hR _ _ _ _ (by
    have e1 : a % 7 * 1 % 7 = 1 := e10
    unfold sInv; rw [if_pos e1]; rfl)) fun e10 => ?_
  have e1 : ¬ a % 7 * 1 % 7 = 1 := e10
  have h2 : -(2 ^ 63) ≤ a % 7 * ((2 : Nat) : Int) ∧ a % 7 * ((2 : Nat) : Int) < 2 ^ 63 := by omega
  refine p7r hS rfl ?_
  rw [ask_mulI h2, ask_remC (by decide), emod7 (by omega), ask_eql1]
  refine a_ifD (fun e20 => hR _ _ _ _ (by
    have e2 : a % 7 * 2 % 7 = 1 := e20
    unfold sInv; rw [if_neg e1, if_pos e2]; rfl)) fun e20 => ?_
  have e2 : ¬ a % 7 * 2 % 7 = 1 := e20
  have h3 : -(2 ^ 63) ≤ a % 7 * ((3 : Nat) : Int) ∧ a % 7 * ((3 : Nat) : Int) < 2 ^ 63 := by omega
  refine p7r hS rfl ?_
  rw [ask_mulI h3, ask_remC (by decide), emod7 (by omega), ask_eql1]
  refine a_ifD (fun e30 => hR _ _ _ _ (by
    have e3 : a % 7 * 3 % 7 = 1 := e30
    unfold sInv; rw [if_neg e1, if_neg e2, if_pos e3]; rfl)) fun e30 => ?_
  have e3 : ¬ a % 7 * 3 % 7 = 1 := e30
  have h4 : -(2 ^ 63) ≤ a % 7 * ((4 : Nat) : Int) ∧ a % 7 * ((4 : Nat) : Int) < 2 ^ 63 := by omega
  refine p7r hS rfl ?_
  rw [ask_mulI h4, ask_remC (by decide), emod7 (by omega), ask_eql1]
  refine a_ifD (fun e40 => hR _ _ _ _ (by
    have e4 : a % 7 * 4 % 7 = 1 := e40
    unfold sInv; rw [if_neg e1, if_neg e2, if_neg e3, if_pos e4]; rfl)) fun e40 => ?_
  have e4 : ¬ a % 7 * 4 % 7 = 1 := e40
  have h5 : -(2 ^ 63) ≤ a % 7 * ((5 : Nat) : Int) ∧ a % 7 * ((5 : Nat) : Int) < 2 ^ 63 := by omega
  refine p7r hS rfl ?_
  rw [ask_mulI h5, ask_remC (by decide), emod7 (by omega), ask_eql1]
  refine a_ifD (fun e50 => hR _ _ _ _ (by
    have e5 : a % 7 * 5 % 7 = 1 := e50
    unfold sInv; rw [if_neg e1, if_neg e2, if_neg e3, if_neg e4, if_pos e5]; rfl)) fun e50 => ?_
  have e5 : ¬ a % 7 * 5 % 7 = 1 := e50
  have h6 : -(2 ^ 63) ≤ a % 7 * ((6 : Nat) : Int) ∧ a % 7 * ((6 : Nat) : Int) < 2 ^ 63 := by omega
  refine p7r hS rfl ?_
  rw [ask_mulI h6, ask_remC (by decide), emod7 (by omega), ask_eql1]
  refine a_ifD (fun e60 => hR _ _ _ _ (by
    have e6 : a % 7 * 6 % 7 = 1 := e60
    unfold sInv; rw [if_neg e1, if_neg e2, if_neg e3, if_neg e4, if_neg e5, if_pos e6]; rfl)) fun e60 => ?_
  have e6 : ¬ a % 7 * 6 % 7 = 1 := e60
  exact hR _ _ _ _ (by unfold sInv; rw [if_neg e1, if_neg e2, if_neg e3, if_neg e4, if_neg e5, if_neg e6]; rfl)
theorem sInv_mul {a : Int} (h : a % 7 ≠ 0) : fs7 (sInv a) * fs7 a = 1 := by
  have hc : a % 7 = 1 ∨ a % 7 = 2 ∨ a % 7 = 3 ∨ a % 7 = 4 ∨ a % 7 = 5 ∨ a % 7 = 6 := by omega
  rw [fs7, fs7, ← rI_mul, ← rI_one, rI_eq]
  rcases hc with hc | hc | hc | hc | hc | hc <;> simp only [sInv, hc] <;> simp <;> omega
theorem meth7One (a : Int) : Meth Try.prog (.iface 27 (S7 a)) "One" [] 51 [S7 a] := fun w => by kernel_rfl
theorem meth7Mul (a b : Int) : Meth Try.prog (.iface 27 (S7 a)) "Mul" [S7 b] 50 [S7 a, S7 b] := fun w => by kernel_rfl
theorem meth7Add (a b : Int) : Meth Try.prog (.iface 27 (S7 a)) "Add" [S7 b] 47 [S7 a, S7 b] := fun w => by kernel_rfl
theorem meth7Sub (a b : Int) : Meth Try.prog (.iface 27 (S7 a)) "Sub" [S7 b] 52 [S7 a, S7 b] := fun w => by kernel_rfl
theorem meth7IsZ (a : Int) : Meth Try.prog (.iface 27 (S7 a)) "IsZero" [] 49 [S7 a] := fun w => by kernel_rfl
theorem meth7Inv (a : Int) : Meth Try.prog (.iface 27 (S7 a)) "Invert" [] 48 [S7 a] := fun w => by kernel_rfl
theorem makeI7 (x : Value) (w : World) : (Instr.makeInterface 27 x).run Try.prog w = .ok (.iface 27 x) w := by kernel_rfl
theorem ty7 : ElTy Try.prog 24 27 1 8 (.agg #[J 0]) := ⟨by kernel_rfl, by kernel_rfl⟩
theorem agg7 : agg? Try.prog 27 = some true := by kernel_rfl
theorem sz7 : sz Try.prog 27 = some 1 := by kernel_rfl
#print axioms keeps7Inv
end Go.Vc
