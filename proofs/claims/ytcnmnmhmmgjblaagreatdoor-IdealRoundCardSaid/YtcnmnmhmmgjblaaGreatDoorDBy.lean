/-
  Bytes: BS n is the array of n's 32 bytes. The program's and the document's Encode, Decode.
-/
import Derived.Test.YtcnmnmhmmgjblaaGreatDoorDProd
namespace Go.Vc
open Go Go.Proofs Go.RowKit
def B (n : Nat) : Value := .int .u8 n
/-- Byte i of n. -/
def bt (n i : Nat) : Nat := n / 256 ^ i % 256
def encB (n : Nat) : List Value := [B (bt n 0), B (bt n 1), B (bt n 2), B (bt n 3), B (bt n 4), B (bt n 5), B (bt n 6), B (bt n 7), B (bt n 8), B (bt n 9), B (bt n 10), B (bt n 11), B (bt n 12), B (bt n 13), B (bt n 14), B (bt n 15), B (bt n 16), B (bt n 17), B (bt n 18), B (bt n 19), B (bt n 20), B (bt n 21), B (bt n 22), B (bt n 23), B (bt n 24), B (bt n 25), B (bt n 26), B (bt n 27), B (bt n 28), B (bt n 29), B (bt n 30), B (bt n 31)]
def BS (n : Nat) : Value := .agg (encB n).toArray
theorem bt_lt (n i : Nat) : bt n i < 256 := Nat.mod_lt _ (by decide)
theorem B_inj {a b : Nat} (h : B a = B b) : a = b := by unfold B at h; simp at h; omega
theorem encB_range (n : Nat) : encB n = (List.range 32).map fun i => B (bt n i) := rfl
theorem lb_div (n j k : Nat) (hk : k < 8) : lb n j / 256 ^ k % 256 = bt n (8 * j + k) := by
  unfold lb bt
  have e1 : B64 = 256 ^ k * 256 ^ (8 - k) := by rw [← Nat.pow_add, show k + (8 - k) = 8 by omega]
  have e2 : 256 ^ (8 - k) = 256 * 256 ^ (7 - k) := by rw [show 8 - k = (7 - k) + 1 by omega, Nat.pow_succ, Nat.mul_comm]
  have e3 : B64 ^ j = 256 ^ (8 * j) := by rw [Nat.pow_mul]
  rw [e3, e1, Nat.mod_mul_right_div_self, e2, Nat.mod_mul_right_mod, Nat.div_div_eq_div_mul, ← Nat.pow_add]
theorem lb_mod8 (n j : Nat) : lb n j % 256 ^ 8 = lb n j := Nat.mod_eq_of_lt (lb_lt n j)
theorem mod_bt (n j k : Nat) (hk : k < 8) : lb n j % 256 ^ (k + 1) = lb n j % 256 ^ k + 256 ^ k * bt n (8 * j + k) := by rw [Nat.mod_pow_succ, lb_div n j k hk]
theorem lb_of_bt {n m : Nat} (h : ∀ i, i < 32 → bt n i = bt m i) (j : Nat) (hj : j < 4) : lb n j = lb m j := by
  have hk : ∀ k, k ≤ 8 → lb n j % 256 ^ k = lb m j % 256 ^ k := by
    intro k
    induction k with
    | zero => intro _; rw [Nat.pow_zero, Nat.mod_one, Nat.mod_one]
    | succ k ih => intro hk; rw [mod_bt n j k (by omega), mod_bt m j k (by omega), ih (by omega), h _ (by omega)]
  rw [← lb_mod8 n, ← lb_mod8 m, hk 8 (Nat.le_refl _)]
theorem BS_inj {a b : Nat} (ha : a < W256) (hb : b < W256) (h : BS a = BS b) : a = b := by
  have h : encB a = encB b := congrArg Array.toList (Value.agg.inj h)
  rw [encB_range, encB_range] at h
  have hbt : ∀ i, i < 32 → bt a i = bt b i := fun i hi => by
    have := congrArg (fun l => l[i]?) h
    simp only [List.getElem?_map, List.getElem?_range hi, Option.map_some, Option.some.injEq] at this
    exact B_inj this
  refine S_inj ha hb ?_
  unfold S
  rw [lb_of_bt hbt 0 (by omega), lb_of_bt hbt 1 (by omega), lb_of_bt hbt 2 (by omega), lb_of_bt hbt 3 (by omega)]
theorem wrap_u8 (n : Nat) : IntKind.u8.wrap (n : Int) = ((n % 256 : Nat) : Int) := by
  simp [IntKind.wrap, IntKind.bits, IntKind.signed]
section
variable {K : Value → Prop}
theorem ask_bplain {a : Nat} : Ask (rPlain (B a)) K = K (B a) := ask_plain rfl
theorem ask_u2b {a : Nat} : Ask (rConv Tryz.prog 22 5 (U a)) K = K (B (a % 256)) :=
  ask_eq (runs_iff fun w => by
    have h : (convert 22 5 (U a)).run Tryz.prog w = .ok (.int .u8 (IntKind.u8.wrap (a : Int))) w := by kernel_rfl
    rw [h, wrap_u8]; rfl)
/-- A byte of a limb. -/
theorem a_eb {n s : Nat} {t : TypeId} {cx cy : Bool} (j k : Nat) (hk : k < 8) (hs : s = 8 * k) (h : K (B (bt n (8 * j + k)))) :
    Ask (rBin Tryz.prog .shr t cx cy (U (lb n j)) (J s)) fun v1 => Ask (rConv Tryz.prog 22 5 v1) fun v2 => Ask (rPlain v2) K := by
  rw [ask_ushr (show s < 64 by omega), ask_u2b, ask_bplain, hs, Nat.pow_mul, show 2 ^ 8 = 256 from rfl, lb_div n j k hk]
  exact h
end
/-! ### the program's bytes -/
def ann161 : Ann := ⟨[], [71], 70, [], [], none, [], []⟩
theorem vc161 (X : Ctx) (β : Nat → Nat) (x0 x1 x2 x3 : Value) : (run Tryz.prog ann161 161 [.l [.v 0, .v 1, .v 2, .v 3]] [] [] 5).den X (env0 [x0, x1, x2, x3] X.w0) 5 β 0 (fun _ _ _ => False) = (
 AskNew X.w0 fun b0 =>
 AskNew X.w0 fun b1 =>
 AskF X 71 [(.agg #[x0, x1, x2, x3])] fun x5 =>
 Ask (rAgg 4 x5) fun x6 =>
 Ask (rSel (aggArr x6) 0 1 false) fun x7 =>
 Ask (rSel (aggArr x6) 1 1 false) fun x8 =>
 Ask (rSel (aggArr x6) 2 1 false) fun x9 =>
 Ask (rSel (aggArr x6) 3 1 false) fun x10 =>
 AskNew X.w0 fun b2 =>
 Ask (rBin X.P .shr 22 false false x7 (J 0)) fun x11 =>
 Ask (rConv X.P 22 5 x11) fun x12 =>
 Ask (rPlain x12) fun x13 =>
 Ask (rBin X.P .shr 22 false false x7 (J 8)) fun x14 =>
 Ask (rConv X.P 22 5 x14) fun x15 =>
 Ask (rPlain x15) fun x16 =>
 Ask (rBin X.P .shr 22 false false x7 (J 16)) fun x17 =>
 Ask (rConv X.P 22 5 x17) fun x18 =>
 Ask (rPlain x18) fun x19 =>
 Ask (rBin X.P .shr 22 false false x7 (J 24)) fun x20 =>
 Ask (rConv X.P 22 5 x20) fun x21 =>
 Ask (rPlain x21) fun x22 =>
 Ask (rBin X.P .shr 22 false false x7 (J 32)) fun x23 =>
 Ask (rConv X.P 22 5 x23) fun x24 =>
 Ask (rPlain x24) fun x25 =>
 Ask (rBin X.P .shr 22 false false x7 (J 40)) fun x26 =>
 Ask (rConv X.P 22 5 x26) fun x27 =>
 Ask (rPlain x27) fun x28 =>
 Ask (rBin X.P .shr 22 false false x7 (J 48)) fun x29 =>
 Ask (rConv X.P 22 5 x29) fun x30 =>
 Ask (rPlain x30) fun x31 =>
 Ask (rBin X.P .shr 22 false false x7 (J 56)) fun x32 =>
 Ask (rConv X.P 22 5 x32) fun x33 =>
 Ask (rPlain x33) fun x34 =>
 Ask (rBin X.P .shr 22 false false x8 (J 0)) fun x35 =>
 Ask (rConv X.P 22 5 x35) fun x36 =>
 Ask (rPlain x36) fun x37 =>
 Ask (rBin X.P .shr 22 false false x8 (J 8)) fun x38 =>
 Ask (rConv X.P 22 5 x38) fun x39 =>
 Ask (rPlain x39) fun x40 =>
 Ask (rBin X.P .shr 22 false false x8 (J 16)) fun x41 =>
 Ask (rConv X.P 22 5 x41) fun x42 =>
 Ask (rPlain x42) fun x43 =>
 Ask (rBin X.P .shr 22 false false x8 (J 24)) fun x44 =>
 Ask (rConv X.P 22 5 x44) fun x45 =>
 Ask (rPlain x45) fun x46 =>
 Ask (rBin X.P .shr 22 false false x8 (J 32)) fun x47 =>
 Ask (rConv X.P 22 5 x47) fun x48 =>
 Ask (rPlain x48) fun x49 =>
 Ask (rBin X.P .shr 22 false false x8 (J 40)) fun x50 =>
 Ask (rConv X.P 22 5 x50) fun x51 =>
 Ask (rPlain x51) fun x52 =>
 Ask (rBin X.P .shr 22 false false x8 (J 48)) fun x53 =>
 Ask (rConv X.P 22 5 x53) fun x54 =>
 Ask (rPlain x54) fun x55 =>
 Ask (rBin X.P .shr 22 false false x8 (J 56)) fun x56 =>
 Ask (rConv X.P 22 5 x56) fun x57 =>
 Ask (rPlain x57) fun x58 =>
 Ask (rBin X.P .shr 22 false false x9 (J 0)) fun x59 =>
 Ask (rConv X.P 22 5 x59) fun x60 =>
 Ask (rPlain x60) fun x61 =>
 Ask (rBin X.P .shr 22 false false x9 (J 8)) fun x62 =>
 Ask (rConv X.P 22 5 x62) fun x63 =>
 Ask (rPlain x63) fun x64 =>
 Ask (rBin X.P .shr 22 false false x9 (J 16)) fun x65 =>
 Ask (rConv X.P 22 5 x65) fun x66 =>
 Ask (rPlain x66) fun x67 =>
 Ask (rBin X.P .shr 22 false false x9 (J 24)) fun x68 =>
 Ask (rConv X.P 22 5 x68) fun x69 =>
 Ask (rPlain x69) fun x70 =>
 Ask (rBin X.P .shr 22 false false x9 (J 32)) fun x71 =>
 Ask (rConv X.P 22 5 x71) fun x72 =>
 Ask (rPlain x72) fun x73 =>
 Ask (rBin X.P .shr 22 false false x9 (J 40)) fun x74 =>
 Ask (rConv X.P 22 5 x74) fun x75 =>
 Ask (rPlain x75) fun x76 =>
 Ask (rBin X.P .shr 22 false false x9 (J 48)) fun x77 =>
 Ask (rConv X.P 22 5 x77) fun x78 =>
 Ask (rPlain x78) fun x79 =>
 Ask (rBin X.P .shr 22 false false x9 (J 56)) fun x80 =>
 Ask (rConv X.P 22 5 x80) fun x81 =>
 Ask (rPlain x81) fun x82 =>
 Ask (rBin X.P .shr 22 false false x10 (J 0)) fun x83 =>
 Ask (rConv X.P 22 5 x83) fun x84 =>
 Ask (rPlain x84) fun x85 =>
 Ask (rBin X.P .shr 22 false false x10 (J 8)) fun x86 =>
 Ask (rConv X.P 22 5 x86) fun x87 =>
 Ask (rPlain x87) fun x88 =>
 Ask (rBin X.P .shr 22 false false x10 (J 16)) fun x89 =>
 Ask (rConv X.P 22 5 x89) fun x90 =>
 Ask (rPlain x90) fun x91 =>
 Ask (rBin X.P .shr 22 false false x10 (J 24)) fun x92 =>
 Ask (rConv X.P 22 5 x92) fun x93 =>
 Ask (rPlain x93) fun x94 =>
 Ask (rBin X.P .shr 22 false false x10 (J 32)) fun x95 =>
 Ask (rConv X.P 22 5 x95) fun x96 =>
 Ask (rPlain x96) fun x97 =>
 Ask (rBin X.P .shr 22 false false x10 (J 40)) fun x98 =>
 Ask (rConv X.P 22 5 x98) fun x99 =>
 Ask (rPlain x99) fun x100 =>
 Ask (rBin X.P .shr 22 false false x10 (J 48)) fun x101 =>
 Ask (rConv X.P 22 5 x101) fun x102 =>
 Ask (rPlain x102) fun x103 =>
 Ask (rBin X.P .shr 22 false false x10 (J 56)) fun x104 =>
 Ask (rConv X.P 22 5 x104) fun x105 =>
 Ask (rPlain x105) fun x106 =>
 Ask (rPlain x13) fun x107 =>
 Ask (rPlain x16) fun x108 =>
 Ask (rPlain x19) fun x109 =>
 Ask (rPlain x22) fun x110 =>
 Ask (rPlain x25) fun x111 =>
 Ask (rPlain x28) fun x112 =>
 Ask (rPlain x31) fun x113 =>
 Ask (rPlain x34) fun x114 =>
 Ask (rPlain x37) fun x115 =>
 Ask (rPlain x40) fun x116 =>
 Ask (rPlain x43) fun x117 =>
 Ask (rPlain x46) fun x118 =>
 Ask (rPlain x49) fun x119 =>
 Ask (rPlain x52) fun x120 =>
 Ask (rPlain x55) fun x121 =>
 Ask (rPlain x58) fun x122 =>
 Ask (rPlain x61) fun x123 =>
 Ask (rPlain x64) fun x124 =>
 Ask (rPlain x67) fun x125 =>
 Ask (rPlain x70) fun x126 =>
 Ask (rPlain x73) fun x127 =>
 Ask (rPlain x76) fun x128 =>
 Ask (rPlain x79) fun x129 =>
 Ask (rPlain x82) fun x130 =>
 Ask (rPlain x85) fun x131 =>
 Ask (rPlain x88) fun x132 =>
 Ask (rPlain x91) fun x133 =>
 Ask (rPlain x94) fun x134 =>
 Ask (rPlain x97) fun x135 =>
 Ask (rPlain x100) fun x136 =>
 Ask (rPlain x103) fun x137 =>
 Ask (rPlain x106) fun x138 =>
 Ret X X.w0 [b1, b2, b2, b2, b2, b2, b2, b2, b2, b2, b2, b2, b2, b2, b2, b2, b2, b2, b2, b2, b2, b2, b2, b2, b2, b2, b2, b2, b2, b2, b2, b2, b2, b0] [] (.agg #[x107, x108, x109, x110, x111, x112, x113, x114, x115, x116, x117, x118, x119, x120, x121, x122, x123, x124, x125, x126, x127, x128, x129, x130, x131, x132, x133, x134, x135, x136, x137, x138])) := by kernel_rfl
def Tl0 : Table := T0.add 71 cLeastS
theorem keepTl0 : AllKeep Tryz.prog GT Tl0 := keepT0.add keepsLeast
def cEncS : Contract := fnP enc1 (· < W256) (fun n v => v = BS (n % lN))
theorem keepsEnc : Keeps1 Tryz.prog GT 161 cEncS := by
  refine keepsP (T := Tl0) (A := ann161) inj1 hMix keepTl0 hGT (fun f hf => by
      simp only [ann161, List.mem_cons, List.not_mem_nil, or_false] at hf
      subst hf; intros; kernel_rfl) (fun f hf => by cases hf) fun n w0 hn _ => ⟨[.l [.v 0, .v 1, .v 2, .v 3]], [], [], 5, env0 [U (lb n 0), U (lb n 1), U (lb n 2), U (lb n 3)] w0, fun b => b, 0, rfl, rfl, fun X hX => mem_none hX rfl, fun X hP hS hw hX hR => ?_⟩
  subst hw
  rw [vc161 X, hP]
  intro _ _ _ _
  rw [show Value.agg #[U (lb n 0), U (lb n 1), U (lb n 2), U (lb n 3)] = S n from rfl]
  refine call_PE hS (T := Tl0) (f := 71) rfl n hn ?_
  rw [ask_aggS, ask_selS0, ask_selS1, ask_selS2, ask_selS3]
  intro _ _
  refine a_eb 0 0 (by decide) rfl ?_
  refine a_eb 0 1 (by decide) rfl ?_
  refine a_eb 0 2 (by decide) rfl ?_
  refine a_eb 0 3 (by decide) rfl ?_
  refine a_eb 0 4 (by decide) rfl ?_
  refine a_eb 0 5 (by decide) rfl ?_
  refine a_eb 0 6 (by decide) rfl ?_
  refine a_eb 0 7 (by decide) rfl ?_
  refine a_eb 1 0 (by decide) rfl ?_
  refine a_eb 1 1 (by decide) rfl ?_
  refine a_eb 1 2 (by decide) rfl ?_
  refine a_eb 1 3 (by decide) rfl ?_
  refine a_eb 1 4 (by decide) rfl ?_
  refine a_eb 1 5 (by decide) rfl ?_
  refine a_eb 1 6 (by decide) rfl ?_
  refine a_eb 1 7 (by decide) rfl ?_
  refine a_eb 2 0 (by decide) rfl ?_
  refine a_eb 2 1 (by decide) rfl ?_
  refine a_eb 2 2 (by decide) rfl ?_
  refine a_eb 2 3 (by decide) rfl ?_
  refine a_eb 2 4 (by decide) rfl ?_
  refine a_eb 2 5 (by decide) rfl ?_
  refine a_eb 2 6 (by decide) rfl ?_
  refine a_eb 2 7 (by decide) rfl ?_
  refine a_eb 3 0 (by decide) rfl ?_
  refine a_eb 3 1 (by decide) rfl ?_
  refine a_eb 3 2 (by decide) rfl ?_
  refine a_eb 3 3 (by decide) rfl ?_
  refine a_eb 3 4 (by decide) rfl ?_
  refine a_eb 3 5 (by decide) rfl ?_
  refine a_eb 3 6 (by decide) rfl ?_
  refine a_eb 3 7 (by decide) rfl ?_
  iterate 32 rw [ask_bplain]
  exact hR _ _ _ _ rfl
/-! ### the document's bytes -/
end Go.Vc
