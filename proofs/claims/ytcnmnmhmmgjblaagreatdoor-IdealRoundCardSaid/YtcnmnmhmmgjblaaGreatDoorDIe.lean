/-
  Params; powers of the document's scalars, weights, bits; lists of residues.
-/
import Derived.Test.YtcnmnmhmmgjblaaGreatDoorDId
import Derived.Test.YtcnmnmhmmgjblaaGreatDoorDRw
namespace Go.Vc
open Go Go.Proofs Go.RowKit
/-! ### conditions that are looked at one after another -/
section
variable {c d : Bool} {R R1 : Value → Prop} {R2 R3 : Value → Value → Prop} {K : Value → Prop}
theorem a_and1 (h : c = true → ∀ K' : Value → Prop, K' (.bool d) → Ask R K') (hK : K (.bool (c && d))) : AskG [(.bool c, true)] R fun x => Ask (rPick (.bool c) x (.bool false)) K := by
  cases c
  · refine a_G_off (condsV1_not (by decide)) fun _ => ?_
    rw [ask_pickF]; exact hK
  · refine a_G_on condsV1 (h rfl _ ?_)
    rw [ask_pickT]; exact hK
theorem a_and3 (h : c = true → ∀ K' : Value → Prop, K' (.bool d) → Ask R1 fun x => Ask (R2 x) fun y => Ask (R3 y) K') (hK : K (.bool (c && d))) :
    AskG [(.bool c, true)] R1 fun x => AskG [(.bool c, true)] (R2 x) fun y => AskG [(.bool c, true)] (R3 y) fun z => Ask (rPick (.bool c) z (.bool false)) K := by
  cases c
  · iterate 3 refine a_G_off (condsV1_not (by decide)) fun _ => ?_
    rw [ask_pickF]; exact hK
  · have h0 := h rfl (fun v => v = .bool d) rfl
    refine a_G_on condsV1 ⟨h0.1, fun x hx => ?_⟩
    have h1 := h0.2 x hx
    refine a_G_on condsV1 ⟨h1.1, fun y hy => ?_⟩
    have h2 := h1.2 y hy
    refine a_G_on condsV1 ⟨h2.1, fun z hz => ?_⟩
    rw [h2.2 z hz]
    show Ask (rPick (.bool true) (.bool d) (.bool false)) K
    rw [ask_pickT]; exact hK
end
/-! ### Params -/
def Pv (b c : Int) : Value := .agg #[.int .i64 b, .int .i64 c]
abbrev encPp (p : Int × Int) : List Value := [Pv p.1 p.2]
theorem Pv_inj {a b a' b' : Int} (h : Pv a b = Pv a' b') : a = a' ∧ b = b' := by
  unfold Pv at h; simpa using h
theorem injPp (p q : Int × Int) (h : encPp p = encPp q) : p = q := by
  simp only [encPp, List.cons.injEq, and_true] at h
  exact Prod.ext (Pv_inj h).1 (Pv_inj h).2
def andI (a b : Int) : Int := IntKind.i64.wrap ((BitVec.ofInt IntKind.i64.bits a &&& BitVec.ofInt IntKind.i64.bits b).toNat)
/-- May there be such proofs? -/
def okPar (b c : Int) : Bool := ((((decide (1 ≤ b) && decide (b ≤ 64)) && (andI b (b - 1) == 0)) && decide (1 ≤ c)) && decide (c ≤ 16)) && (andI c (c - 1) == 0)
theorem okPar_spec {b c : Int} (h : okPar b c = true) : ∃ m n : Nat, b = m ∧ c = n ∧ 0 < m ∧ m ≤ 64 ∧ 0 < n ∧ n ≤ 16 := by
  simp only [okPar, Bool.and_eq_true, decide_eq_true_eq] at h
  obtain ⟨⟨⟨⟨⟨h1, h2⟩, _⟩, h3⟩, h4⟩, _⟩ := h
  exact ⟨b.toNat, c.toNat, by omega, by omega, by omega, by omega, by omega, by omega⟩
section
variable {P : Program} {K : Value → Prop} {t : TypeId} {cx cy : Bool} {a b : Int}
theorem ask_andI : Ask (rBin P .and t cx cy (.int .i64 a) (.int .i64 b)) K = K (.int .i64 (andI a b)) := ask_and
end
def ann42 : Ann := ⟨[], [], 70, [], [], none, [], []⟩
theorem vc42 (X : Ctx) (β : Nat → Nat) (x0 x1 : Value) : (run Tryz.prog ann42 42 [.l [.v 0, .v 1]] [] [] 3).den X (env0 [x0, x1] X.w0) 3 β 0 (fun _ _ _ => False) = (
 AskNew X.w0 fun _ =>
 Ask (rBin X.P .geq 3 false true x0 (J 1)) fun x3 =>
 AskG [(x3, true)] (rBin X.P .leq 3 false true x0 (J 64)) fun x4 =>
 Ask (rPick x3 x4 (.bool false)) fun x5 =>
 AskG [(x5, true)] (rBin X.P .sub 3 false true x0 (J 1)) fun x6 =>
 AskG [(x5, true)] (rBin X.P .and 3 false false x0 x6) fun x7 =>
 AskG [(x5, true)] (rBin X.P .eql 3 false true x7 (J 0)) fun x8 =>
 Ask (rPick x5 x8 (.bool false)) fun x9 =>
 AskG [(x9, true)] (rBin X.P .geq 3 false true x1 (J 1)) fun x10 =>
 Ask (rPick x9 x10 (.bool false)) fun x11 =>
 AskG [(x11, true)] (rBin X.P .leq 3 false true x1 (J 16)) fun x12 =>
 Ask (rPick x11 x12 (.bool false)) fun x13 =>
 AskG [(x13, true)] (rBin X.P .sub 3 false true x1 (J 1)) fun x14 =>
 AskG [(x13, true)] (rBin X.P .and 3 false false x1 x14) fun x15 =>
 AskG [(x13, true)] (rBin X.P .eql 3 false true x15 (J 0)) fun x16 =>
 Ask (rPick x13 x16 (.bool false)) fun x17 =>
 Ret X X.w0 [] [] x17) := by kernel_rfl
def cAllowed : Contract := fnP encPp (fun _ => True) (fun p v => v = .bool (okPar p.1 p.2))
theorem keepsAllowed : Keeps1 Tryz.prog GT 42 cAllowed := by
  refine keepsP (T := T0) (A := ann42) (fun p q _ _ => injPp p q) hMix keepT0 hGT (calls_of (by kernel_rfl)) (callsW_of (by kernel_rfl)) fun ⟨b, c⟩ w0 _ _ => ⟨[.l [.v 0, .v 1]], [], [], 3, env0 [.int .i64 b, .int .i64 c] w0, fun b => b, 0, rfl, rfl, fun X hX => mem_none hX rfl, fun X hP hS hw hX hR => ?_⟩
  subst hw; dsimp only at hR
  rw [vc42 X]
  intro _ _
  have three : ∀ (a : Int) (K' : Value → Prop), 1 ≤ a → a ≤ 64 → K' (.bool (andI a (a - 1) == 0)) → Ask (rBin X.P .sub 3 false true (.int .i64 a) (J 1)) fun x => Ask (rBin X.P .and 3 false false (.int .i64 a) x) fun y => Ask (rBin X.P .eql 3 false true y (J 0)) K' := fun a K' h1 h2 hK => by
    rw [ask_sub, wrap_i64 (by omega) (by omega), ask_andI, ask_eql]; exact hK
  rw [ask_geq]
  refine a_and1 (d := decide (b ≤ 64)) (fun _ K' hK => by rw [ask_leq]; exact hK) ?_
  refine a_and3 (d := andI b (b - 1) == 0) (fun h K' hK => ?_) ?_
  · simp only [Bool.and_eq_true, decide_eq_true_eq] at h
    exact three b K' (by omega) (by omega) hK
  refine a_and1 (d := decide (1 ≤ c)) (fun _ K' hK => by rw [ask_geq]; exact hK) ?_
  refine a_and1 (d := decide (c ≤ 16)) (fun _ K' hK => by rw [ask_leq]; exact hK) ?_
  refine a_and3 (d := andI c (c - 1) == 0) (fun h K' hK => ?_) ?_
  · simp only [Bool.and_eq_true, decide_eq_true_eq] at h
    exact three c K' (by omega) (by omega) hK
  exact hR _ _ _ _ rfl
def ann23 : Ann := ⟨[], [], 70, [], [], none, [], []⟩
theorem vc23 (X : Ctx) (β : Nat → Nat) (x0 x1 : Value) : (run Tryz.prog ann23 23 [.l [.v 0, .v 1]] [] [] 3).den X (env0 [x0, x1] X.w0) 3 β 0 (fun _ _ _ => False) = (
 AskNew X.w0 fun _ =>
 Ask (rBin X.P .mul 3 false false x0 x1) fun x3 =>
 Ret X X.w0 [] [] x3) := by kernel_rfl
def sizeI (b c : Int) : Int := IntKind.i64.wrap (b * c)
theorem sizeI_nat {m n : Nat} (h : m * n < 2 ^ 63) : sizeI m n = ((m * n : Nat) : Int) := by
  unfold sizeI
  rw [← Int.natCast_mul, wrap_i64 (by omega) (by omega)]
def cSize : Contract := fnP encPp (fun _ => True) (fun p v => v = .int .i64 (sizeI p.1 p.2))
theorem keepsSize : Keeps1 Tryz.prog GT 23 cSize := by
  refine keepsP (T := T0) (A := ann23) (fun p q _ _ => injPp p q) hMix keepT0 hGT (calls_of (by kernel_rfl)) (callsW_of (by kernel_rfl)) fun ⟨b, c⟩ w0 _ _ => ⟨[.l [.v 0, .v 1]], [], [], 3, env0 [.int .i64 b, .int .i64 c] w0, fun b => b, 0, rfl, rfl, fun X hX => mem_none hX rfl, fun X hP hS hw hX hR => ?_⟩
  subst hw; dsimp only at hR
  rw [vc23 X]
  intro _ _
  rw [ask_mul]
  exact hR _ _ _ _ rfl
def ann86 : Ann := ⟨[], [], 70, [], [], none, [], []⟩
theorem vc86 (X : Ctx) (β : Nat → Nat) (x0 x1 : Value) : (run Tryz.prog ann86 86 [.l [.v 0, .v 1]] [] [] 3).den X (env0 [x0, x1] X.w0) 3 β 0 (fun _ _ _ => False) = (
 AskNew X.w0 fun _ =>
 Ask (rBin X.P .geq 3 false true x0 (J 64)) fun x3 =>
 (∃ t, x3 = .bool t) ∧ (x3 = .bool true →
 Ret X X.w0 [] [] (.tuple #[(U 0), (.bool false)])) ∧ (x3 = .bool false →
 Ask (rBin X.P .shl 22 true false (U 1) x0) fun x4 =>
 Ret X X.w0 [] [] (.tuple #[x4, (.bool true)]))) := by kernel_rfl
def cTop : Contract := fnP (fun p : Nat × Int => [Pv p.1 p.2]) (fun p => 0 < p.1 ∧ p.1 ≤ 64) (fun p v => v = if 64 ≤ p.1 then .tuple #[U 0, .bool false] else .tuple #[U (2 ^ p.1), .bool true])
theorem keepsTop : Keeps1 Tryz.prog GT 86 cTop := by
  refine keepsP (T := T0) (A := ann86) (fun p q _ _ h => by
    simp only [List.cons.injEq, and_true] at h
    obtain ⟨h1, h2⟩ := Pv_inj h
    exact Prod.ext (by omega) h2) hMix keepT0 hGT (calls_of (by kernel_rfl)) (callsW_of (by kernel_rfl)) fun ⟨b, c⟩ w0 ⟨h1, h2⟩ _ => ⟨[.l [.v 0, .v 1]], [], [], 3, env0 [J b, .int .i64 c] w0, fun b => b, 0, rfl, rfl, fun X hX => mem_none hX rfl, fun X hP hS hw hX hR => ?_⟩
  subst hw; dsimp only at hR h1 h2
  rw [vc86 X]
  intro _ _
  rw [ask_geqN]
  refine a_ifD (fun h => ?_) fun h => ?_
  · exact hR _ _ _ _ (by rw [if_pos h])
  · rw [ask_ushl (kd := .i64) (by omega)]
    refine hR _ _ _ _ ?_
    rw [if_neg h, Nat.one_mul, Nat.mod_eq_of_lt (by have : 2 ^ b < 2 ^ 64 := Nat.pow_lt_pow_right (by decide) (by omega); exact this)]
/-! ### powers, weights, bits of the document -/
theorem J_injI {a b : Nat} (h : J a = J b) : a = b := by simp only [Value.int.injEq, true_and] at h; omega
theorem ask_j2uI {n : Nat} (h : n < B64) {K : Value → Prop} : Ask (rConv Tryz.prog 3 22 (J n)) K = K (U n) :=
  ask_eq (runs_iff fun w => by
    have h1 : (convert 3 22 (J n)).run Tryz.prog w = .ok (.int .u64 (IntKind.u64.wrap (n : Int))) w := by kernel_rfl
    rw [h1, wrap_u64, Nat.mod_eq_of_lt h]; rfl)
/-! ### lists of residues -/
def encF (e : F) : List Value := encS e.val
theorem encF_len (e : F) : (encF e).length = 4 := rfl
theorem encF_inj (a b : F) (h : encF a = encF b) : a = b := val_inj (encS_inj (val_lt a) (val_lt b) h)
def cLF : Cod (List F) := cL encF (fun _ => True) 4 encF_len (fun a b _ _ h => encF_inj a b h)
theorem one_encF (e : F) : (encF e).all (·.oneCell') = true := one_encS _
abbrev LsF := Ls encF (fun _ : F => True)
def sumF' (f : Nat → F) : Nat → F
  | 0 => 0
  | n + 1 => sumF' f n + f n
theorem sumF'_congr {f g : Nat → F} : ∀ n, (∀ i, i < n → f i = g i) → sumF' f n = sumF' g n
  | 0, _ => rfl
  | n + 1, h => by rw [sumF', sumF', sumF'_congr n (fun i hi => h i (by omega)), h n (by omega)]
section
variable {X : Ctx} {u : World} {v : Value} {n i : Nat} {ow : List Nat} {K : Value → Prop}
theorem aggRI : agg? Tryz.prog 49 = some true := by kernel_rfl
theorem szRI : sz Tryz.prog 49 = some 4 := by kernel_rfl
theorem tyRI : ElTy Tryz.prog 50 49 4 32 (.agg #[U 0, U 0, U 0, U 0]) := ⟨by kernel_rfl, by kernel_rfl⟩
theorem tySI : ElTy Tryz.prog 28 29 4 32 (.agg #[U 0, U 0, U 0, U 0]) := ⟨by kernel_rfl, by kernel_rfl⟩
/-- Element i of a list of the document's scalars. -/
theorem ld_RF {l : List F} (hP : X.P = Tryz.prog) (hk : Kn X u) (h : SlAt u v n (l.flatMap encF)) (hn : l.length = n) (hi : i < l.length) (how : ∀ b, v.ownBlock = some b → b ∉ ow)
    (hK : K (S (l.getD i 0).val)) : Ask (rIad X.P 50 v (J i)) fun p => Ask (rLoad X u ow 49 p) K := by
  refine a_iadN hP tyRI h (by omega) ?_
  have e : l.getD i 0 = l[i] := by rw [List.getD_eq_getElem?_getD, List.getElem?_eq_getElem hi]; rfl
  refine a_load_agg (cs := encF l[i]) hk h (by rw [hP]; exact aggRI) (by rw [hP]; exact szRI) how (by simp [encF, encS]) (flat_at encF_len l i _ (List.getElem?_eq_getElem hi)) ?_
  rw [← e]; exact hK
/-- Element i of a list of the program's scalars. -/
theorem ld_SF {l : List F} (hP : X.P = Tryz.prog) (hk : Kn X u) (h : SlAt u v n (l.flatMap encF)) (hn : l.length = n) (hi : i < l.length) (how : ∀ b, v.ownBlock = some b → b ∉ ow)
    (hK : K (S (l.getD i 0).val)) : Ask (rIad X.P 28 v (J i)) fun p => Ask (rLoad X u ow 29 p) K := by
  refine a_iadN hP tySI h (by omega) ?_
  have e : l.getD i 0 = l[i] := by rw [List.getD_eq_getElem?_getD, List.getElem?_eq_getElem hi]; rfl
  refine a_load_agg (cs := encF l[i]) hk h (by rw [hP]; exact aggS) (by rw [hP]; exact szS) how (by simp [encF, encS]) (flat_at encF_len l i _ (List.getElem?_eq_getElem hi)) ?_
  rw [← e]; exact hK
theorem ld_SN {l : List Nat} (hP : X.P = Tryz.prog) (hk : Kn X u) (h : SlAt u v n (l.flatMap encS)) (hn : l.length = n) (hi : i < l.length) (how : ∀ b, v.ownBlock = some b → b ∉ ow)
    (hK : K (S (l.getD i 0))) : Ask (rIad X.P 28 v (J i)) fun p => Ask (rLoad X u ow 29 p) K := by
  refine a_iadN hP tySI h (by omega) ?_
  have e : l.getD i 0 = l[i] := by rw [List.getD_eq_getElem?_getD, List.getElem?_eq_getElem hi]; rfl
  refine a_load_agg (cs := encS l[i]) hk h (by rw [hP]; exact aggS) (by rw [hP]; exact szS) how (by simp [encS]) (flat_at encS_len l i _ (List.getElem?_eq_getElem hi)) ?_
  rw [← e]; exact hK
end
end Go.Vc
