/-
  Bytes: BS n is the array of n's 32 bytes. The program's and the document's Encode, Decode.
-/
import Derived.Test.YtoakfcihcmmihaaDoorDProd
namespace Go.Vc
open Go Go.Proofs Go.RowKit

def B (n : Nat) : Value := .int .u8 n
/-- Byte i of n. -/
def bt (n i : Nat) : Nat := n / 256 ^ i % 256
def encB (n : Nat) : List Value := [B (bt n 0), B (bt n 1), B (bt n 2), B (bt n 3), B (bt n 4), B (bt n 5), B (bt n 6), B (bt n 7), B (bt n 8), B (bt n 9), B (bt n 10), B (bt n 11), B (bt n 12), B (bt n 13), B (bt n 14), B (bt n 15), B (bt n 16), B (bt n 17), B (bt n 18), B (bt n 19), B (bt n 20), B (bt n 21), B (bt n 22), B (bt n 23), B (bt n 24), B (bt n 25), B (bt n 26), B (bt n 27), B (bt n 28), B (bt n 29), B (bt n 30), B (bt n 31)]
def BS (n : Nat) : Value := .agg (encB n).toArray
theorem bt_lt (n i : Nat) : bt n i < 256 := Nat.mod_lt _ (by decide)
theorem B_inj {a b : Nat} (h : B a = B b) : a = b := by unfold B at h; simp at h; omega
theorem encB_range (n : Nat) : encB n = (List.range 32).map fun i => B (bt n i) := rfl
theorem lb_div (n j k : Nat) (hk : k < 8) : lb n j / 256 ^ k % 256 = bt n (8 * j + k) := by
  unfold lb bt
  have e1 : B64 = 256 ^ k * 256 ^ (8 - k) := by rw [← Nat.pow_add, show k + (8 - k) = 8 by omega]
  have e2 : 256 ^ (8 - k) = 256 * 256 ^ (7 - k) := by rw [show 8 - k = (7 - k) + 1 by omega, Nat.pow_succ, Nat.mul_comm]
  have e3 : B64 ^ j = 256 ^ (8 * j) := by rw [Nat.pow_mul]
  rw [e3, e1, Nat.mod_mul_right_div_self, e2, Nat.mod_mul_right_mod, Nat.div_div_eq_div_mul, ← Nat.pow_add]
theorem lb_mod8 (n j : Nat) : lb n j % 256 ^ 8 = lb n j := Nat.mod_eq_of_lt (lb_lt n j)
theorem mod_bt (n j k : Nat) (hk : k < 8) : lb n j % 256 ^ (k + 1) = lb n j % 256 ^ k + 256 ^ k * bt n (8 * j + k) := by rw [Nat.mod_pow_succ, lb_div n j k hk]
theorem lb_of_bt {n m : Nat} (h : ∀ i, i < 32 → bt n i = bt m i) (j : Nat) (hj : j < 4) : lb n j = lb m j := by
  have hk : ∀ k, k ≤ 8 → lb n j % 256 ^ k = lb m j % 256 ^ k := by
    intro k
    induction k with
    | zero => intro _; rw [Nat.pow_zero, Nat.mod_one, Nat.mod_one]
    | succ k ih => intro hk; rw [mod_bt n j k (by omega), mod_bt m j k (by omega), ih (by omega), h _ (by omega)]
  rw [← lb_mod8 n, ← lb_mod8 m, hk 8 (Nat.le_refl _)]
theorem BS_inj {a b : Nat} (ha : a < W256) (hb : b < W256) (h : BS a = BS b) : a = b := by
  have h : encB a = encB b := congrArg Array.toList (Value.agg.inj h)
  rw [encB_range, encB_range] at h
  have hbt : ∀ i, i < 32 → bt a i = bt b i := fun i hi => by
    have := congrArg (fun l => l[i]?) h
    simp only [List.getElem?_map, List.getElem?_range hi, Option.map_some, Option.some.injEq] at this
    exact B_inj this
  refine S_inj ha hb ?_
  unfold S
  rw [lb_of_bt hbt 0 (by omega), lb_of_bt hbt 1 (by omega), lb_of_bt hbt 2 (by omega), lb_of_bt hbt 3 (by omega)]
def numB : List Nat → Nat | [] => 0 | a :: r => a + 256 * numB r
theorem bt_numB : ∀ (l : List Nat) (i : Nat) (a : Nat), (∀ x ∈ l, x < 256) → l[i]? = some a → bt (numB l) i = a
  | [], i, a, _, h => by simp at h
  | x :: r, 0, a, hl, h => by
    obtain rfl : x = a := by simpa using h
    have := hl x (by simp)
    unfold bt numB
    rw [Nat.pow_zero, Nat.div_one]; omega
  | x :: r, i + 1, a, hl, h => by
    have hx := hl x (by simp)
    have := bt_numB r i a (fun y hy => hl y (by simp [hy])) (by simpa using h)
    unfold bt at this ⊢
    rw [Nat.pow_succ, Nat.mul_comm, ← Nat.div_div_eq_div_mul, numB, Nat.add_mul_div_left _ _ (by decide), Nat.div_eq_of_lt hx, Nat.zero_add]
    exact this
theorem numB_lt : ∀ l : List Nat, (∀ x ∈ l, x < 256) → numB l < 256 ^ l.length
  | [], _ => by simp [numB]
  | x :: r, h => by
    have h1 := h x (by simp)
    have h2 := numB_lt r fun y hy => h y (by simp [hy])
    rw [numB, List.length_cons, Nat.pow_succ]; omega
/-- Any 32 bytes are a number's. -/
theorem BS_of {l : List Nat} (hl : l.length = 32) (hb : ∀ x ∈ l, x < 256) : .agg (l.map B).toArray = BS (numB l) ∧ numB l < W256 := by
  refine ⟨?_, by have := numB_lt l hb; rw [hl] at this; exact this⟩
  unfold BS
  congr 2
  rw [encB_range]
  refine List.ext_getElem (by simp [hl]) fun i h1 h2 => ?_
  rw [List.getElem_map, List.getElem_map, List.getElem_range, bt_numB l i (l[i]'(by simpa using h1)) hb (List.getElem?_eq_getElem _)]

/-- Thirty-two bytes as an argument. -/
def cBy : Cod Nat := ⟨fun _ v n => v = BS n ∧ n < W256, fun _ _ _ _ h k => BS_inj h.2 k.2 (h.1.symm.trans k.1)⟩
abbrev encBy (n : Nat) : List Value := [BS n]
theorem injBy (a b : Nat) (ha : a < W256) (hb : b < W256) (h : encBy a = encBy b) : a = b := BS_inj ha hb (by simpa [encBy] using h)

theorem wrap_u8 (n : Nat) : IntKind.u8.wrap (n : Int) = ((n % 256 : Nat) : Int) := by
  simp [IntKind.wrap, IntKind.bits, IntKind.signed]
section
variable {K : Value → Prop}
theorem ask_aggB {n : Nat} : Ask (rAgg 32 (BS n)) K = K (BS n) := ask_agg rfl (by simp [encB, B, Value.oneCell'])
theorem ask_bplain {a : Nat} : Ask (rPlain (B a)) K = K (B a) := ask_plain rfl
theorem ask_u2b {a : Nat} : Ask (rConv Tryd.prog 22 5 (U a)) K = K (B (a % 256)) :=
  ask_eq (runs_iff fun w => by
    have h : (convert 22 5 (U a)).run Tryd.prog w = .ok (.int .u8 (IntKind.u8.wrap (a : Int))) w := by kernel_rfl
    rw [h, wrap_u8]; rfl)
theorem ask_b2u {a : Nat} (ha : a < B64) : Ask (rConv Tryd.prog 5 22 (B a)) K = K (U a) :=
  ask_eq (runs_iff fun w => by
    have h : (convert 5 22 (B a)).run Tryd.prog w = .ok (.int .u64 (IntKind.u64.wrap (a : Int))) w := by kernel_rfl
    rw [h, wrap_u64, Nat.mod_eq_of_lt ha]; rfl)
theorem bt_l (n i : Nat) : bt n i < B64 := Nat.lt_trans (bt_lt n i) (by decide)
theorem idxB (n i : Nat) (h : i < 32) (w : World) : (Instr.index 97 (BS n) (J i)).run Tryd.prog w = .ok (B (bt n i)) w := by
  rcases (show i = 0 ∨ i = 1 ∨ i = 2 ∨ i = 3 ∨ i = 4 ∨ i = 5 ∨ i = 6 ∨ i = 7 ∨ i = 8 ∨ i = 9 ∨ i = 10 ∨ i = 11 ∨ i = 12 ∨ i = 13 ∨ i = 14 ∨ i = 15 ∨ i = 16 ∨ i = 17 ∨ i = 18 ∨ i = 19 ∨ i = 20 ∨ i = 21 ∨ i = 22 ∨ i = 23 ∨ i = 24 ∨ i = 25 ∨ i = 26 ∨ i = 27 ∨ i = 28 ∨ i = 29 ∨ i = 30 ∨ i = 31 by omega) with rfl | rfl | rfl | rfl | rfl | rfl | rfl | rfl | rfl | rfl | rfl | rfl | rfl | rfl | rfl | rfl | rfl | rfl | rfl | rfl | rfl | rfl | rfl | rfl | rfl | rfl | rfl | rfl | rfl | rfl | rfl | rfl <;> kernel_rfl
theorem ask_idxB {n i : Nat} (h : i < 32) : Ask (rIdx Tryd.prog 97 (BS n) (J i)) K = K (B (bt n i)) := ask_eq (runs_iff fun w => idxB n i h w)
theorem ask_selB {n i : Nat} (h : i < 32) : Ask (rSel (aggArr (BS n)) i 1 false) K = K (B (bt n i)) := ask_sel1 (by
  show (encB n).toArray[i]? = _
  rw [encB_range]; simp [h])

/-- One byte more, the lowest first. -/
theorem a_fb {n i s acc : Nat} {t : TypeId} {cx cy : Bool} (j k : Nat) (hk : k < 8) (hi : i = 8 * j + k) (hi32 : i < 32) (hs : s = 8 * k) (ha : acc = lb n j % 256 ^ k) (h : ∀ acc', acc' = lb n j % 256 ^ (k + 1) → K (U acc')) :
    Ask (rIdx Tryd.prog 97 (BS n) (J i)) fun v1 => Ask (rConv Tryd.prog 5 22 v1) fun v2 => Ask (rBin Tryd.prog .shl t cx cy v2 (J s)) fun v3 => Ask (rBin Tryd.prog .or t cx cy (U acc) v3) fun v4 => Ask (rPlain v4) K := by
  rw [ask_idxB hi32, ask_b2u (bt_l n i), ask_ushl (show s < 64 by omega)]
  have e : 2 ^ s = 256 ^ k := by rw [hs, Nat.pow_mul]
  have hlt : 256 ^ k * bt n i + acc < B64 := by
    have h1 : lb n j % 256 ^ (k + 1) ≤ lb n j := Nat.mod_le _ _
    rw [mod_bt n j k hk, ← ha, ← hi] at h1
    have := lb_lt n j
    omega
  have hacc : acc < 256 ^ k := by rw [ha]; exact Nat.mod_lt _ (Nat.pow_pos (by decide))
  have hm : bt n i * 2 ^ s % B64 = 256 ^ k * bt n i := by rw [e, Nat.mul_comm]; exact Nat.mod_eq_of_lt (by omega)
  rw [hm, ask_uorD s (by omega) (by rw [e]; exact Nat.mul_mod_right _ _) (by rw [e]; exact hacc) (by omega), ask_uplain]
  refine h _ ?_
  rw [mod_bt n j k hk, ha, hi]
/-- One byte more, the highest first. -/
theorem a_lm {n i acc : Nat} {t : TypeId} {c1 c2 c3 c4 : Bool} (j k : Nat) (hk : k < 8) (hi : i = 8 * j + k) (hi32 : i < 32) (ha : acc = lb n j / 256 ^ (k + 1)) (h : ∀ acc', acc' = lb n j / 256 ^ k → K (U acc')) :
    Ask (rBin Tryd.prog .shl t c1 c2 (U acc) (U 8)) fun v1 => Ask (rSel (aggArr (BS n)) i 1 false) fun v2 => Ask (rConv Tryd.prog 5 22 v2) fun v3 => Ask (rBin Tryd.prog .or t c3 c4 v1 v3) fun v4 => Ask (rPlain v4) K := by
  have e : lb n j / 256 ^ k = 256 * acc + bt n i := by
    rw [ha, hi, ← lb_div n j k hk, Nat.pow_succ, ← Nat.div_div_eq_div_mul]
    exact (Nat.div_add_mod _ _).symm
  have hlt : lb n j / 256 ^ k < B64 := Nat.lt_of_le_of_lt (Nat.div_le_self _ _) (lb_lt n j)
  rw [e] at hlt h
  have hb := bt_lt n i
  have hm : acc * 2 ^ 8 % B64 = 256 * acc := by rw [show 2 ^ 8 = 256 from rfl, Nat.mul_comm]; exact Nat.mod_eq_of_lt (by omega)
  rw [ask_ushlU (by omega), hm, ask_selB hi32, ask_b2u (bt_l n i), ask_uorU 8 (by omega) (by omega) (by omega) (by omega), ask_uplain]
  exact h _ rfl
/-- A byte of a limb. -/
theorem a_eb {n s : Nat} {t : TypeId} {cx cy : Bool} (j k : Nat) (hk : k < 8) (hs : s = 8 * k) (h : K (B (bt n (8 * j + k)))) :
    Ask (rBin Tryd.prog .shr t cx cy (U (lb n j)) (J s)) fun v1 => Ask (rConv Tryd.prog 22 5 v1) fun v2 => Ask (rPlain v2) K := by
  rw [ask_ushr (show s < 64 by omega), ask_u2b, ask_bplain, hs, Nat.pow_mul, show 2 ^ 8 = 256 from rfl, lb_div n j k hk]
  exact h
end

/-! ### the program's bytes -/
def ann126 : Ann := ⟨[], [], 70, [], [], none, [], []⟩
theorem vc126 (X : Ctx) (β : Nat → Nat) (x0 : Value) : (run Tryd.prog ann126 126 [.x (.v 0)] [] [] 2).den X (env0 [x0] X.w0) 2 β 0 (fun _ _ _ => False) = (
  Ask (rAgg 32 x0) fun x2 =>
  AskNew X.w0 fun _ =>
  AskNew X.w0 fun b1 =>
  AskNew X.w0 fun b2 =>
  Ask (rIdx X.P 97 x2 (J 0)) fun x3 =>
  Ask (rConv X.P 5 22 x3) fun x4 =>
  Ask (rBin X.P .shl 22 false false x4 (J 0)) fun x5 =>
  Ask (rBin X.P .or 22 false false (U 0) x5) fun x6 =>
  Ask (rPlain x6) fun x7 =>
  Ask (rIdx X.P 97 x2 (J 1)) fun x8 =>
  Ask (rConv X.P 5 22 x8) fun x9 =>
  Ask (rBin X.P .shl 22 false false x9 (J 8)) fun x10 =>
  Ask (rBin X.P .or 22 false false x7 x10) fun x11 =>
  Ask (rPlain x11) fun x12 =>
  Ask (rIdx X.P 97 x2 (J 2)) fun x13 =>
  Ask (rConv X.P 5 22 x13) fun x14 =>
  Ask (rBin X.P .shl 22 false false x14 (J 16)) fun x15 =>
  Ask (rBin X.P .or 22 false false x12 x15) fun x16 =>
  Ask (rPlain x16) fun x17 =>
  Ask (rIdx X.P 97 x2 (J 3)) fun x18 =>
  Ask (rConv X.P 5 22 x18) fun x19 =>
  Ask (rBin X.P .shl 22 false false x19 (J 24)) fun x20 =>
  Ask (rBin X.P .or 22 false false x17 x20) fun x21 =>
  Ask (rPlain x21) fun x22 =>
  Ask (rIdx X.P 97 x2 (J 4)) fun x23 =>
  Ask (rConv X.P 5 22 x23) fun x24 =>
  Ask (rBin X.P .shl 22 false false x24 (J 32)) fun x25 =>
  Ask (rBin X.P .or 22 false false x22 x25) fun x26 =>
  Ask (rPlain x26) fun x27 =>
  Ask (rIdx X.P 97 x2 (J 5)) fun x28 =>
  Ask (rConv X.P 5 22 x28) fun x29 =>
  Ask (rBin X.P .shl 22 false false x29 (J 40)) fun x30 =>
  Ask (rBin X.P .or 22 false false x27 x30) fun x31 =>
  Ask (rPlain x31) fun x32 =>
  Ask (rIdx X.P 97 x2 (J 6)) fun x33 =>
  Ask (rConv X.P 5 22 x33) fun x34 =>
  Ask (rBin X.P .shl 22 false false x34 (J 48)) fun x35 =>
  Ask (rBin X.P .or 22 false false x32 x35) fun x36 =>
  Ask (rPlain x36) fun x37 =>
  Ask (rIdx X.P 97 x2 (J 7)) fun x38 =>
  Ask (rConv X.P 5 22 x38) fun x39 =>
  Ask (rBin X.P .shl 22 false false x39 (J 56)) fun x40 =>
  Ask (rBin X.P .or 22 false false x37 x40) fun x41 =>
  Ask (rPlain x41) fun x42 =>
  Ask (rIdx X.P 97 x2 (J 8)) fun x43 =>
  Ask (rConv X.P 5 22 x43) fun x44 =>
  Ask (rBin X.P .shl 22 false false x44 (J 0)) fun x45 =>
  Ask (rBin X.P .or 22 false false (U 0) x45) fun x46 =>
  Ask (rPlain x46) fun x47 =>
  Ask (rIdx X.P 97 x2 (J 9)) fun x48 =>
  Ask (rConv X.P 5 22 x48) fun x49 =>
  Ask (rBin X.P .shl 22 false false x49 (J 8)) fun x50 =>
  Ask (rBin X.P .or 22 false false x47 x50) fun x51 =>
  Ask (rPlain x51) fun x52 =>
  Ask (rIdx X.P 97 x2 (J 10)) fun x53 =>
  Ask (rConv X.P 5 22 x53) fun x54 =>
  Ask (rBin X.P .shl 22 false false x54 (J 16)) fun x55 =>
  Ask (rBin X.P .or 22 false false x52 x55) fun x56 =>
  Ask (rPlain x56) fun x57 =>
  Ask (rIdx X.P 97 x2 (J 11)) fun x58 =>
  Ask (rConv X.P 5 22 x58) fun x59 =>
  Ask (rBin X.P .shl 22 false false x59 (J 24)) fun x60 =>
  Ask (rBin X.P .or 22 false false x57 x60) fun x61 =>
  Ask (rPlain x61) fun x62 =>
  Ask (rIdx X.P 97 x2 (J 12)) fun x63 =>
  Ask (rConv X.P 5 22 x63) fun x64 =>
  Ask (rBin X.P .shl 22 false false x64 (J 32)) fun x65 =>
  Ask (rBin X.P .or 22 false false x62 x65) fun x66 =>
  Ask (rPlain x66) fun x67 =>
  Ask (rIdx X.P 97 x2 (J 13)) fun x68 =>
  Ask (rConv X.P 5 22 x68) fun x69 =>
  Ask (rBin X.P .shl 22 false false x69 (J 40)) fun x70 =>
  Ask (rBin X.P .or 22 false false x67 x70) fun x71 =>
  Ask (rPlain x71) fun x72 =>
  Ask (rIdx X.P 97 x2 (J 14)) fun x73 =>
  Ask (rConv X.P 5 22 x73) fun x74 =>
  Ask (rBin X.P .shl 22 false false x74 (J 48)) fun x75 =>
  Ask (rBin X.P .or 22 false false x72 x75) fun x76 =>
  Ask (rPlain x76) fun x77 =>
  Ask (rIdx X.P 97 x2 (J 15)) fun x78 =>
  Ask (rConv X.P 5 22 x78) fun x79 =>
  Ask (rBin X.P .shl 22 false false x79 (J 56)) fun x80 =>
  Ask (rBin X.P .or 22 false false x77 x80) fun x81 =>
  Ask (rPlain x81) fun x82 =>
  Ask (rIdx X.P 97 x2 (J 16)) fun x83 =>
  Ask (rConv X.P 5 22 x83) fun x84 =>
  Ask (rBin X.P .shl 22 false false x84 (J 0)) fun x85 =>
  Ask (rBin X.P .or 22 false false (U 0) x85) fun x86 =>
  Ask (rPlain x86) fun x87 =>
  Ask (rIdx X.P 97 x2 (J 17)) fun x88 =>
  Ask (rConv X.P 5 22 x88) fun x89 =>
  Ask (rBin X.P .shl 22 false false x89 (J 8)) fun x90 =>
  Ask (rBin X.P .or 22 false false x87 x90) fun x91 =>
  Ask (rPlain x91) fun x92 =>
  Ask (rIdx X.P 97 x2 (J 18)) fun x93 =>
  Ask (rConv X.P 5 22 x93) fun x94 =>
  Ask (rBin X.P .shl 22 false false x94 (J 16)) fun x95 =>
  Ask (rBin X.P .or 22 false false x92 x95) fun x96 =>
  Ask (rPlain x96) fun x97 =>
  Ask (rIdx X.P 97 x2 (J 19)) fun x98 =>
  Ask (rConv X.P 5 22 x98) fun x99 =>
  Ask (rBin X.P .shl 22 false false x99 (J 24)) fun x100 =>
  Ask (rBin X.P .or 22 false false x97 x100) fun x101 =>
  Ask (rPlain x101) fun x102 =>
  Ask (rIdx X.P 97 x2 (J 20)) fun x103 =>
  Ask (rConv X.P 5 22 x103) fun x104 =>
  Ask (rBin X.P .shl 22 false false x104 (J 32)) fun x105 =>
  Ask (rBin X.P .or 22 false false x102 x105) fun x106 =>
  Ask (rPlain x106) fun x107 =>
  Ask (rIdx X.P 97 x2 (J 21)) fun x108 =>
  Ask (rConv X.P 5 22 x108) fun x109 =>
  Ask (rBin X.P .shl 22 false false x109 (J 40)) fun x110 =>
  Ask (rBin X.P .or 22 false false x107 x110) fun x111 =>
  Ask (rPlain x111) fun x112 =>
  Ask (rIdx X.P 97 x2 (J 22)) fun x113 =>
  Ask (rConv X.P 5 22 x113) fun x114 =>
  Ask (rBin X.P .shl 22 false false x114 (J 48)) fun x115 =>
  Ask (rBin X.P .or 22 false false x112 x115) fun x116 =>
  Ask (rPlain x116) fun x117 =>
  Ask (rIdx X.P 97 x2 (J 23)) fun x118 =>
  Ask (rConv X.P 5 22 x118) fun x119 =>
  Ask (rBin X.P .shl 22 false false x119 (J 56)) fun x120 =>
  Ask (rBin X.P .or 22 false false x117 x120) fun x121 =>
  Ask (rPlain x121) fun x122 =>
  Ask (rIdx X.P 97 x2 (J 24)) fun x123 =>
  Ask (rConv X.P 5 22 x123) fun x124 =>
  Ask (rBin X.P .shl 22 false false x124 (J 0)) fun x125 =>
  Ask (rBin X.P .or 22 false false (U 0) x125) fun x126 =>
  Ask (rPlain x126) fun x127 =>
  Ask (rIdx X.P 97 x2 (J 25)) fun x128 =>
  Ask (rConv X.P 5 22 x128) fun x129 =>
  Ask (rBin X.P .shl 22 false false x129 (J 8)) fun x130 =>
  Ask (rBin X.P .or 22 false false x127 x130) fun x131 =>
  Ask (rPlain x131) fun x132 =>
  Ask (rIdx X.P 97 x2 (J 26)) fun x133 =>
  Ask (rConv X.P 5 22 x133) fun x134 =>
  Ask (rBin X.P .shl 22 false false x134 (J 16)) fun x135 =>
  Ask (rBin X.P .or 22 false false x132 x135) fun x136 =>
  Ask (rPlain x136) fun x137 =>
  Ask (rIdx X.P 97 x2 (J 27)) fun x138 =>
  Ask (rConv X.P 5 22 x138) fun x139 =>
  Ask (rBin X.P .shl 22 false false x139 (J 24)) fun x140 =>
  Ask (rBin X.P .or 22 false false x137 x140) fun x141 =>
  Ask (rPlain x141) fun x142 =>
  Ask (rIdx X.P 97 x2 (J 28)) fun x143 =>
  Ask (rConv X.P 5 22 x143) fun x144 =>
  Ask (rBin X.P .shl 22 false false x144 (J 32)) fun x145 =>
  Ask (rBin X.P .or 22 false false x142 x145) fun x146 =>
  Ask (rPlain x146) fun x147 =>
  Ask (rIdx X.P 97 x2 (J 29)) fun x148 =>
  Ask (rConv X.P 5 22 x148) fun x149 =>
  Ask (rBin X.P .shl 22 false false x149 (J 40)) fun x150 =>
  Ask (rBin X.P .or 22 false false x147 x150) fun x151 =>
  Ask (rPlain x151) fun x152 =>
  Ask (rIdx X.P 97 x2 (J 30)) fun x153 =>
  Ask (rConv X.P 5 22 x153) fun x154 =>
  Ask (rBin X.P .shl 22 false false x154 (J 48)) fun x155 =>
  Ask (rBin X.P .or 22 false false x152 x155) fun x156 =>
  Ask (rPlain x156) fun x157 =>
  Ask (rIdx X.P 97 x2 (J 31)) fun x158 =>
  Ask (rConv X.P 5 22 x158) fun x159 =>
  Ask (rBin X.P .shl 22 false false x159 (J 56)) fun x160 =>
  Ask (rBin X.P .or 22 false false x157 x160) fun x161 =>
  Ask (rPlain x161) fun x162 =>
  Ask (rPlain x42) fun x163 =>
  Ask (rPlain x82) fun x164 =>
  Ask (rPlain x122) fun x165 =>
  Ask (rPlain x162) fun x166 =>
  Ret X X.w0 [b1, b2, b2, b2, b2, b2, b2, b2, b2, b2, b2, b2, b2, b2, b2, b2, b2, b2, b2, b2, b2, b2, b2, b2, b2, b2, b2, b2, b2, b2, b2, b2, b2] [] (.agg #[x163, x164, x165, x166])) := by kernel_rfl
def cFromB : Contract := fnP encBy (· < W256) (fun n v => v = S n)
theorem keepsFromB : Keeps1 Tryd.prog GT 126 cFromB := by
  refine keepsP (T := T0) (A := ann126) injBy hMix keepT0 hGT (fun f hf => by cases hf) (fun f hf => by cases hf) fun n w0 hn _ => ⟨[.x (.v 0)], [], [], 2, env0 [BS n] w0, fun b => b, 0, rfl, rfl, fun X hX => mem_none hX rfl, fun X hP hS hw hX hR => ?_⟩
  subst hw
  rw [vc126 X, hP]
  rw [ask_aggB]; intro _ _ _ _ _ _
  refine a_fb 0 0 (by decide) rfl (by decide) rfl (Nat.mod_one _).symm fun a00 e00 => ?_
  refine a_fb 0 1 (by decide) rfl (by decide) rfl e00 fun a01 e01 => ?_
  refine a_fb 0 2 (by decide) rfl (by decide) rfl e01 fun a02 e02 => ?_
  refine a_fb 0 3 (by decide) rfl (by decide) rfl e02 fun a03 e03 => ?_
  refine a_fb 0 4 (by decide) rfl (by decide) rfl e03 fun a04 e04 => ?_
  refine a_fb 0 5 (by decide) rfl (by decide) rfl e04 fun a05 e05 => ?_
  refine a_fb 0 6 (by decide) rfl (by decide) rfl e05 fun a06 e06 => ?_
  refine a_fb 0 7 (by decide) rfl (by decide) rfl e06 fun a07 e07 => ?_
  refine a_fb 1 0 (by decide) rfl (by decide) rfl (Nat.mod_one _).symm fun a10 e10 => ?_
  refine a_fb 1 1 (by decide) rfl (by decide) rfl e10 fun a11 e11 => ?_
  refine a_fb 1 2 (by decide) rfl (by decide) rfl e11 fun a12 e12 => ?_
  refine a_fb 1 3 (by decide) rfl (by decide) rfl e12 fun a13 e13 => ?_
  refine a_fb 1 4 (by decide) rfl (by decide) rfl e13 fun a14 e14 => ?_
  refine a_fb 1 5 (by decide) rfl (by decide) rfl e14 fun a15 e15 => ?_
  refine a_fb 1 6 (by decide) rfl (by decide) rfl e15 fun a16 e16 => ?_
  refine a_fb 1 7 (by decide) rfl (by decide) rfl e16 fun a17 e17 => ?_
  refine a_fb 2 0 (by decide) rfl (by decide) rfl (Nat.mod_one _).symm fun a20 e20 => ?_
  refine a_fb 2 1 (by decide) rfl (by decide) rfl e20 fun a21 e21 => ?_
  refine a_fb 2 2 (by decide) rfl (by decide) rfl e21 fun a22 e22 => ?_
  refine a_fb 2 3 (by decide) rfl (by decide) rfl e22 fun a23 e23 => ?_
  refine a_fb 2 4 (by decide) rfl (by decide) rfl e23 fun a24 e24 => ?_
  refine a_fb 2 5 (by decide) rfl (by decide) rfl e24 fun a25 e25 => ?_
  refine a_fb 2 6 (by decide) rfl (by decide) rfl e25 fun a26 e26 => ?_
  refine a_fb 2 7 (by decide) rfl (by decide) rfl e26 fun a27 e27 => ?_
  refine a_fb 3 0 (by decide) rfl (by decide) rfl (Nat.mod_one _).symm fun a30 e30 => ?_
  refine a_fb 3 1 (by decide) rfl (by decide) rfl e30 fun a31 e31 => ?_
  refine a_fb 3 2 (by decide) rfl (by decide) rfl e31 fun a32 e32 => ?_
  refine a_fb 3 3 (by decide) rfl (by decide) rfl e32 fun a33 e33 => ?_
  refine a_fb 3 4 (by decide) rfl (by decide) rfl e33 fun a34 e34 => ?_
  refine a_fb 3 5 (by decide) rfl (by decide) rfl e34 fun a35 e35 => ?_
  refine a_fb 3 6 (by decide) rfl (by decide) rfl e35 fun a36 e36 => ?_
  refine a_fb 3 7 (by decide) rfl (by decide) rfl e36 fun a37 e37 => ?_
  rw [lb_mod8] at e07 e17 e27 e37
  subst e07; subst e17; subst e27; subst e37
  rw [ask_uplain, ask_uplain, ask_uplain, ask_uplain]
  exact hR _ _ _ _ rfl

def ann88 : Ann := ⟨[], [35], 70, [], [], none, [], []⟩
theorem vc88 (X : Ctx) (β : Nat → Nat) (x0 x1 x2 x3 : Value) : (run Tryd.prog ann88 88 [.l [.v 0, .v 1, .v 2, .v 3]] [] [] 5).den X (env0 [x0, x1, x2, x3] X.w0) 5 β 0 (fun _ _ _ => False) = (
  AskNew X.w0 fun b0 =>
  AskNew X.w0 fun b1 =>
  AskF X 35 [(.agg #[x0, x1, x2, x3])] fun x5 =>
  Ask (rAgg 4 x5) fun x6 =>
  Ask (rSel (aggArr x6) 0 1 false) fun x7 =>
  Ask (rSel (aggArr x6) 1 1 false) fun x8 =>
  Ask (rSel (aggArr x6) 2 1 false) fun x9 =>
  Ask (rSel (aggArr x6) 3 1 false) fun x10 =>
  AskNew X.w0 fun b2 =>
  Ask (rBin X.P .shr 22 false false x7 (J 0)) fun x11 =>
  Ask (rConv X.P 22 5 x11) fun x12 =>
  Ask (rPlain x12) fun x13 =>
  Ask (rBin X.P .shr 22 false false x7 (J 8)) fun x14 =>
  Ask (rConv X.P 22 5 x14) fun x15 =>
  Ask (rPlain x15) fun x16 =>
  Ask (rBin X.P .shr 22 false false x7 (J 16)) fun x17 =>
  Ask (rConv X.P 22 5 x17) fun x18 =>
  Ask (rPlain x18) fun x19 =>
  Ask (rBin X.P .shr 22 false false x7 (J 24)) fun x20 =>
  Ask (rConv X.P 22 5 x20) fun x21 =>
  Ask (rPlain x21) fun x22 =>
  Ask (rBin X.P .shr 22 false false x7 (J 32)) fun x23 =>
  Ask (rConv X.P 22 5 x23) fun x24 =>
  Ask (rPlain x24) fun x25 =>
  Ask (rBin X.P .shr 22 false false x7 (J 40)) fun x26 =>
  Ask (rConv X.P 22 5 x26) fun x27 =>
  Ask (rPlain x27) fun x28 =>
  Ask (rBin X.P .shr 22 false false x7 (J 48)) fun x29 =>
  Ask (rConv X.P 22 5 x29) fun x30 =>
  Ask (rPlain x30) fun x31 =>
  Ask (rBin X.P .shr 22 false false x7 (J 56)) fun x32 =>
  Ask (rConv X.P 22 5 x32) fun x33 =>
  Ask (rPlain x33) fun x34 =>
  Ask (rBin X.P .shr 22 false false x8 (J 0)) fun x35 =>
  Ask (rConv X.P 22 5 x35) fun x36 =>
  Ask (rPlain x36) fun x37 =>
  Ask (rBin X.P .shr 22 false false x8 (J 8)) fun x38 =>
  Ask (rConv X.P 22 5 x38) fun x39 =>
  Ask (rPlain x39) fun x40 =>
  Ask (rBin X.P .shr 22 false false x8 (J 16)) fun x41 =>
  Ask (rConv X.P 22 5 x41) fun x42 =>
  Ask (rPlain x42) fun x43 =>
  Ask (rBin X.P .shr 22 false false x8 (J 24)) fun x44 =>
  Ask (rConv X.P 22 5 x44) fun x45 =>
  Ask (rPlain x45) fun x46 =>
  Ask (rBin X.P .shr 22 false false x8 (J 32)) fun x47 =>
  Ask (rConv X.P 22 5 x47) fun x48 =>
  Ask (rPlain x48) fun x49 =>
  Ask (rBin X.P .shr 22 false false x8 (J 40)) fun x50 =>
  Ask (rConv X.P 22 5 x50) fun x51 =>
  Ask (rPlain x51) fun x52 =>
  Ask (rBin X.P .shr 22 false false x8 (J 48)) fun x53 =>
  Ask (rConv X.P 22 5 x53) fun x54 =>
  Ask (rPlain x54) fun x55 =>
  Ask (rBin X.P .shr 22 false false x8 (J 56)) fun x56 =>
  Ask (rConv X.P 22 5 x56) fun x57 =>
  Ask (rPlain x57) fun x58 =>
  Ask (rBin X.P .shr 22 false false x9 (J 0)) fun x59 =>
  Ask (rConv X.P 22 5 x59) fun x60 =>
  Ask (rPlain x60) fun x61 =>
  Ask (rBin X.P .shr 22 false false x9 (J 8)) fun x62 =>
  Ask (rConv X.P 22 5 x62) fun x63 =>
  Ask (rPlain x63) fun x64 =>
  Ask (rBin X.P .shr 22 false false x9 (J 16)) fun x65 =>
  Ask (rConv X.P 22 5 x65) fun x66 =>
  Ask (rPlain x66) fun x67 =>
  Ask (rBin X.P .shr 22 false false x9 (J 24)) fun x68 =>
  Ask (rConv X.P 22 5 x68) fun x69 =>
  Ask (rPlain x69) fun x70 =>
  Ask (rBin X.P .shr 22 false false x9 (J 32)) fun x71 =>
  Ask (rConv X.P 22 5 x71) fun x72 =>
  Ask (rPlain x72) fun x73 =>
  Ask (rBin X.P .shr 22 false false x9 (J 40)) fun x74 =>
  Ask (rConv X.P 22 5 x74) fun x75 =>
  Ask (rPlain x75) fun x76 =>
  Ask (rBin X.P .shr 22 false false x9 (J 48)) fun x77 =>
  Ask (rConv X.P 22 5 x77) fun x78 =>
  Ask (rPlain x78) fun x79 =>
  Ask (rBin X.P .shr 22 false false x9 (J 56)) fun x80 =>
  Ask (rConv X.P 22 5 x80) fun x81 =>
  Ask (rPlain x81) fun x82 =>
  Ask (rBin X.P .shr 22 false false x10 (J 0)) fun x83 =>
  Ask (rConv X.P 22 5 x83) fun x84 =>
  Ask (rPlain x84) fun x85 =>
  Ask (rBin X.P .shr 22 false false x10 (J 8)) fun x86 =>
  Ask (rConv X.P 22 5 x86) fun x87 =>
  Ask (rPlain x87) fun x88 =>
  Ask (rBin X.P .shr 22 false false x10 (J 16)) fun x89 =>
  Ask (rConv X.P 22 5 x89) fun x90 =>
  Ask (rPlain x90) fun x91 =>
  Ask (rBin X.P .shr 22 false false x10 (J 24)) fun x92 =>
  Ask (rConv X.P 22 5 x92) fun x93 =>
  Ask (rPlain x93) fun x94 =>
  Ask (rBin X.P .shr 22 false false x10 (J 32)) fun x95 =>
  Ask (rConv X.P 22 5 x95) fun x96 =>
  Ask (rPlain x96) fun x97 =>
  Ask (rBin X.P .shr 22 false false x10 (J 40)) fun x98 =>
  Ask (rConv X.P 22 5 x98) fun x99 =>
  Ask (rPlain x99) fun x100 =>
  Ask (rBin X.P .shr 22 false false x10 (J 48)) fun x101 =>
  Ask (rConv X.P 22 5 x101) fun x102 =>
  Ask (rPlain x102) fun x103 =>
  Ask (rBin X.P .shr 22 false false x10 (J 56)) fun x104 =>
  Ask (rConv X.P 22 5 x104) fun x105 =>
  Ask (rPlain x105) fun x106 =>
  Ask (rPlain x13) fun x107 =>
  Ask (rPlain x16) fun x108 =>
  Ask (rPlain x19) fun x109 =>
  Ask (rPlain x22) fun x110 =>
  Ask (rPlain x25) fun x111 =>
  Ask (rPlain x28) fun x112 =>
  Ask (rPlain x31) fun x113 =>
  Ask (rPlain x34) fun x114 =>
  Ask (rPlain x37) fun x115 =>
  Ask (rPlain x40) fun x116 =>
  Ask (rPlain x43) fun x117 =>
  Ask (rPlain x46) fun x118 =>
  Ask (rPlain x49) fun x119 =>
  Ask (rPlain x52) fun x120 =>
  Ask (rPlain x55) fun x121 =>
  Ask (rPlain x58) fun x122 =>
  Ask (rPlain x61) fun x123 =>
  Ask (rPlain x64) fun x124 =>
  Ask (rPlain x67) fun x125 =>
  Ask (rPlain x70) fun x126 =>
  Ask (rPlain x73) fun x127 =>
  Ask (rPlain x76) fun x128 =>
  Ask (rPlain x79) fun x129 =>
  Ask (rPlain x82) fun x130 =>
  Ask (rPlain x85) fun x131 =>
  Ask (rPlain x88) fun x132 =>
  Ask (rPlain x91) fun x133 =>
  Ask (rPlain x94) fun x134 =>
  Ask (rPlain x97) fun x135 =>
  Ask (rPlain x100) fun x136 =>
  Ask (rPlain x103) fun x137 =>
  Ask (rPlain x106) fun x138 =>
  Ret X X.w0 [b1, b2, b2, b2, b2, b2, b2, b2, b2, b2, b2, b2, b2, b2, b2, b2, b2, b2, b2, b2, b2, b2, b2, b2, b2, b2, b2, b2, b2, b2, b2, b2, b2, b0] [] (.agg #[x107, x108, x109, x110, x111, x112, x113, x114, x115, x116, x117, x118, x119, x120, x121, x122, x123, x124, x125, x126, x127, x128, x129, x130, x131, x132, x133, x134, x135, x136, x137, x138])) := by kernel_rfl
def Tl0 : Table := T0.add 35 cLeastS
theorem keepTl0 : AllKeep Tryd.prog GT Tl0 := keepT0.add keepsLeast
def cEncS : Contract := fnP enc1 (· < W256) (fun n v => v = BS (n % lN))
theorem keepsEnc : Keeps1 Tryd.prog GT 88 cEncS := by
  refine keepsP (T := Tl0) (A := ann88) inj1 hMix keepTl0 hGT (fun f hf => by
      simp only [ann88, List.mem_cons, List.not_mem_nil, or_false] at hf
      subst hf; intros; kernel_rfl) (fun f hf => by cases hf) fun n w0 hn _ => ⟨[.l [.v 0, .v 1, .v 2, .v 3]], [], [], 5, env0 [U (lb n 0), U (lb n 1), U (lb n 2), U (lb n 3)] w0, fun b => b, 0, rfl, rfl, fun X hX => mem_none hX rfl, fun X hP hS hw hX hR => ?_⟩
  subst hw
  rw [vc88 X, hP]
  intro _ _ _ _
  rw [show Value.agg #[U (lb n 0), U (lb n 1), U (lb n 2), U (lb n 3)] = S n from rfl]
  refine call_PE hS (T := Tl0) (f := 35) rfl n hn ?_
  rw [ask_aggS, ask_selS0, ask_selS1, ask_selS2, ask_selS3]
  intro _ _
  refine a_eb 0 0 (by decide) rfl ?_
  refine a_eb 0 1 (by decide) rfl ?_
  refine a_eb 0 2 (by decide) rfl ?_
  refine a_eb 0 3 (by decide) rfl ?_
  refine a_eb 0 4 (by decide) rfl ?_
  refine a_eb 0 5 (by decide) rfl ?_
  refine a_eb 0 6 (by decide) rfl ?_
  refine a_eb 0 7 (by decide) rfl ?_
  refine a_eb 1 0 (by decide) rfl ?_
  refine a_eb 1 1 (by decide) rfl ?_
  refine a_eb 1 2 (by decide) rfl ?_
  refine a_eb 1 3 (by decide) rfl ?_
  refine a_eb 1 4 (by decide) rfl ?_
  refine a_eb 1 5 (by decide) rfl ?_
  refine a_eb 1 6 (by decide) rfl ?_
  refine a_eb 1 7 (by decide) rfl ?_
  refine a_eb 2 0 (by decide) rfl ?_
  refine a_eb 2 1 (by decide) rfl ?_
  refine a_eb 2 2 (by decide) rfl ?_
  refine a_eb 2 3 (by decide) rfl ?_
  refine a_eb 2 4 (by decide) rfl ?_
  refine a_eb 2 5 (by decide) rfl ?_
  refine a_eb 2 6 (by decide) rfl ?_
  refine a_eb 2 7 (by decide) rfl ?_
  refine a_eb 3 0 (by decide) rfl ?_
  refine a_eb 3 1 (by decide) rfl ?_
  refine a_eb 3 2 (by decide) rfl ?_
  refine a_eb 3 3 (by decide) rfl ?_
  refine a_eb 3 4 (by decide) rfl ?_
  refine a_eb 3 5 (by decide) rfl ?_
  refine a_eb 3 6 (by decide) rfl ?_
  refine a_eb 3 7 (by decide) rfl ?_
  iterate 32 rw [ask_bplain]
  exact hR _ _ _ _ rfl

def ann92 : Ann := ⟨[], [126, 35], 70, [], [2, 4], none, [], []⟩
theorem vc92 (X : Ctx) (β : Nat → Nat) (x0 : Value) : (run Tryd.prog ann92 92 [.x (.v 0)] [] [] 2).den X (env0 [x0] X.w0) 2 β 0 (fun _ _ _ => False) = (
  Ask (rAgg 32 x0) fun x2 =>
  AskNew X.w0 fun _ =>
  Ask (rAgg 4 (.agg #[(U 0), (U 0), (U 0), (U 0)])) fun _ =>
  AskNew X.w0 fun b1 =>
  AskF X 126 [x2] fun x4 =>
  Ask (rAgg 4 (.agg #[(U 0), (U 0), (U 0), (U 0)])) fun _ =>
  AskNew X.w0 fun b2 =>
  Ask (rAgg 4 x4) fun x6 =>
  AskF X 35 [x6] fun x7 =>
  Ask (rBin X.P .neq 24 false false x7 x6) fun x8 =>
  (∃ t, x8 = .bool t) ∧ (x8 = .bool true →
    Ask (rAgg 4 (.agg #[(U 0), (U 0), (U 0), (U 0)])) fun x9 =>
    Ret X X.w0 [b1, b2] [] (.tuple #[x9, (J 3)])) ∧ (x8 = .bool false →
    Ask (rAgg 4 x6) fun x9 =>
    Ret X X.w0 [b1, b2] [] (.tuple #[x9, (J 0)]))) := by kernel_rfl
def Tdc : Table := (T0.add 126 cFromB).add 35 cLeastS
theorem keepTdc : AllKeep Tryd.prog GT Tdc := (keepT0.add keepsFromB).add keepsLeast
def cDecS : Contract := fnP encBy (· < W256) (fun n v => v = if n < lN then .tuple #[S n, J 0] else .tuple #[S 0, J 3])
theorem keepsDec : Keeps1 Tryd.prog GT 92 cDecS := by
  refine keepsP (T := Tdc) (A := ann92) injBy hMix keepTdc hGT (fun f hf => by
      simp only [ann92, List.mem_cons, List.not_mem_nil, or_false] at hf
      rcases hf with rfl | rfl <;> intros <;> kernel_rfl) (fun f hf => by cases hf) fun n w0 hn _ => ⟨[.x (.v 0)], [], [], 2, env0 [BS n] w0, fun b => b, 0, rfl, rfl, fun X hX => mem_none hX rfl, fun X hP hS hw hX hR => ?_⟩
  subst hw
  rw [vc92 X]
  rw [ask_aggB]; intro _ _; rw [ask_zero4]; intro _ _
  refine call_PE hS (T := Tdc) (f := 126) rfl n hn ?_
  rw [ask_zero4]; intro _ _; rw [ask_aggS]
  refine call_PE hS (T := Tdc) (f := 35) rfl n hn ?_
  rw [ask_neqS (hP ▸ a4S) (lm_lt _) hn]
  refine a_ifN (fun h => ?_) fun h => ?_
  · rw [ask_zero4]
    refine hR _ _ _ _ ?_
    rw [if_neg fun hlt => h (Nat.mod_eq_of_lt hlt)]
  · rw [ask_aggS]
    refine hR _ _ _ _ ?_
    rw [if_pos (h ▸ mod_l n)]

/-! ### the document's bytes -/
def ann90 : Ann := ⟨[], [], 70, [], [], none, [], []⟩
theorem vc90 (X : Ctx) (β : Nat → Nat) (x0 x1 x2 x3 : Value) : (run Tryd.prog ann90 90 [.l [.v 0, .v 1, .v 2, .v 3]] [] [] 5).den X (env0 [x0, x1, x2, x3] X.w0) 5 β 0 (fun _ _ _ => False) = (
  AskNew X.w0 fun _ =>
  AskNew X.w0 fun b1 =>
  AskNew X.w0 fun b2 =>
  Ask (rBin X.P .shr 22 false false x0 (J 0)) fun x5 =>
  Ask (rConv X.P 22 5 x5) fun x6 =>
  Ask (rPlain x6) fun x7 =>
  Ask (rBin X.P .shr 22 false false x0 (J 8)) fun x8 =>
  Ask (rConv X.P 22 5 x8) fun x9 =>
  Ask (rPlain x9) fun x10 =>
  Ask (rBin X.P .shr 22 false false x0 (J 16)) fun x11 =>
  Ask (rConv X.P 22 5 x11) fun x12 =>
  Ask (rPlain x12) fun x13 =>
  Ask (rBin X.P .shr 22 false false x0 (J 24)) fun x14 =>
  Ask (rConv X.P 22 5 x14) fun x15 =>
  Ask (rPlain x15) fun x16 =>
  Ask (rBin X.P .shr 22 false false x0 (J 32)) fun x17 =>
  Ask (rConv X.P 22 5 x17) fun x18 =>
  Ask (rPlain x18) fun x19 =>
  Ask (rBin X.P .shr 22 false false x0 (J 40)) fun x20 =>
  Ask (rConv X.P 22 5 x20) fun x21 =>
  Ask (rPlain x21) fun x22 =>
  Ask (rBin X.P .shr 22 false false x0 (J 48)) fun x23 =>
  Ask (rConv X.P 22 5 x23) fun x24 =>
  Ask (rPlain x24) fun x25 =>
  Ask (rBin X.P .shr 22 false false x0 (J 56)) fun x26 =>
  Ask (rConv X.P 22 5 x26) fun x27 =>
  Ask (rPlain x27) fun x28 =>
  Ask (rBin X.P .shr 22 false false x1 (J 0)) fun x29 =>
  Ask (rConv X.P 22 5 x29) fun x30 =>
  Ask (rPlain x30) fun x31 =>
  Ask (rBin X.P .shr 22 false false x1 (J 8)) fun x32 =>
  Ask (rConv X.P 22 5 x32) fun x33 =>
  Ask (rPlain x33) fun x34 =>
  Ask (rBin X.P .shr 22 false false x1 (J 16)) fun x35 =>
  Ask (rConv X.P 22 5 x35) fun x36 =>
  Ask (rPlain x36) fun x37 =>
  Ask (rBin X.P .shr 22 false false x1 (J 24)) fun x38 =>
  Ask (rConv X.P 22 5 x38) fun x39 =>
  Ask (rPlain x39) fun x40 =>
  Ask (rBin X.P .shr 22 false false x1 (J 32)) fun x41 =>
  Ask (rConv X.P 22 5 x41) fun x42 =>
  Ask (rPlain x42) fun x43 =>
  Ask (rBin X.P .shr 22 false false x1 (J 40)) fun x44 =>
  Ask (rConv X.P 22 5 x44) fun x45 =>
  Ask (rPlain x45) fun x46 =>
  Ask (rBin X.P .shr 22 false false x1 (J 48)) fun x47 =>
  Ask (rConv X.P 22 5 x47) fun x48 =>
  Ask (rPlain x48) fun x49 =>
  Ask (rBin X.P .shr 22 false false x1 (J 56)) fun x50 =>
  Ask (rConv X.P 22 5 x50) fun x51 =>
  Ask (rPlain x51) fun x52 =>
  Ask (rBin X.P .shr 22 false false x2 (J 0)) fun x53 =>
  Ask (rConv X.P 22 5 x53) fun x54 =>
  Ask (rPlain x54) fun x55 =>
  Ask (rBin X.P .shr 22 false false x2 (J 8)) fun x56 =>
  Ask (rConv X.P 22 5 x56) fun x57 =>
  Ask (rPlain x57) fun x58 =>
  Ask (rBin X.P .shr 22 false false x2 (J 16)) fun x59 =>
  Ask (rConv X.P 22 5 x59) fun x60 =>
  Ask (rPlain x60) fun x61 =>
  Ask (rBin X.P .shr 22 false false x2 (J 24)) fun x62 =>
  Ask (rConv X.P 22 5 x62) fun x63 =>
  Ask (rPlain x63) fun x64 =>
  Ask (rBin X.P .shr 22 false false x2 (J 32)) fun x65 =>
  Ask (rConv X.P 22 5 x65) fun x66 =>
  Ask (rPlain x66) fun x67 =>
  Ask (rBin X.P .shr 22 false false x2 (J 40)) fun x68 =>
  Ask (rConv X.P 22 5 x68) fun x69 =>
  Ask (rPlain x69) fun x70 =>
  Ask (rBin X.P .shr 22 false false x2 (J 48)) fun x71 =>
  Ask (rConv X.P 22 5 x71) fun x72 =>
  Ask (rPlain x72) fun x73 =>
  Ask (rBin X.P .shr 22 false false x2 (J 56)) fun x74 =>
  Ask (rConv X.P 22 5 x74) fun x75 =>
  Ask (rPlain x75) fun x76 =>
  Ask (rBin X.P .shr 22 false false x3 (J 0)) fun x77 =>
  Ask (rConv X.P 22 5 x77) fun x78 =>
  Ask (rPlain x78) fun x79 =>
  Ask (rBin X.P .shr 22 false false x3 (J 8)) fun x80 =>
  Ask (rConv X.P 22 5 x80) fun x81 =>
  Ask (rPlain x81) fun x82 =>
  Ask (rBin X.P .shr 22 false false x3 (J 16)) fun x83 =>
  Ask (rConv X.P 22 5 x83) fun x84 =>
  Ask (rPlain x84) fun x85 =>
  Ask (rBin X.P .shr 22 false false x3 (J 24)) fun x86 =>
  Ask (rConv X.P 22 5 x86) fun x87 =>
  Ask (rPlain x87) fun x88 =>
  Ask (rBin X.P .shr 22 false false x3 (J 32)) fun x89 =>
  Ask (rConv X.P 22 5 x89) fun x90 =>
  Ask (rPlain x90) fun x91 =>
  Ask (rBin X.P .shr 22 false false x3 (J 40)) fun x92 =>
  Ask (rConv X.P 22 5 x92) fun x93 =>
  Ask (rPlain x93) fun x94 =>
  Ask (rBin X.P .shr 22 false false x3 (J 48)) fun x95 =>
  Ask (rConv X.P 22 5 x95) fun x96 =>
  Ask (rPlain x96) fun x97 =>
  Ask (rBin X.P .shr 22 false false x3 (J 56)) fun x98 =>
  Ask (rConv X.P 22 5 x98) fun x99 =>
  Ask (rPlain x99) fun x100 =>
  Ask (rPlain x7) fun x101 =>
  Ask (rPlain x10) fun x102 =>
  Ask (rPlain x13) fun x103 =>
  Ask (rPlain x16) fun x104 =>
  Ask (rPlain x19) fun x105 =>
  Ask (rPlain x22) fun x106 =>
  Ask (rPlain x25) fun x107 =>
  Ask (rPlain x28) fun x108 =>
  Ask (rPlain x31) fun x109 =>
  Ask (rPlain x34) fun x110 =>
  Ask (rPlain x37) fun x111 =>
  Ask (rPlain x40) fun x112 =>
  Ask (rPlain x43) fun x113 =>
  Ask (rPlain x46) fun x114 =>
  Ask (rPlain x49) fun x115 =>
  Ask (rPlain x52) fun x116 =>
  Ask (rPlain x55) fun x117 =>
  Ask (rPlain x58) fun x118 =>
  Ask (rPlain x61) fun x119 =>
  Ask (rPlain x64) fun x120 =>
  Ask (rPlain x67) fun x121 =>
  Ask (rPlain x70) fun x122 =>
  Ask (rPlain x73) fun x123 =>
  Ask (rPlain x76) fun x124 =>
  Ask (rPlain x79) fun x125 =>
  Ask (rPlain x82) fun x126 =>
  Ask (rPlain x85) fun x127 =>
  Ask (rPlain x88) fun x128 =>
  Ask (rPlain x91) fun x129 =>
  Ask (rPlain x94) fun x130 =>
  Ask (rPlain x97) fun x131 =>
  Ask (rPlain x100) fun x132 =>
  Ret X X.w0 [b1, b2, b2, b2, b2, b2, b2, b2, b2, b2, b2, b2, b2, b2, b2, b2, b2, b2, b2, b2, b2, b2, b2, b2, b2, b2, b2, b2, b2, b2, b2, b2, b2] [] (.agg #[x101, x102, x103, x104, x105, x106, x107, x108, x109, x110, x111, x112, x113, x114, x115, x116, x117, x118, x119, x120, x121, x122, x123, x124, x125, x126, x127, x128, x129, x130, x131, x132])) := by kernel_rfl
def cREncS : Contract := fnP enc1 (· < W256) (fun n v => v = BS n)
theorem keepsREnc : Keeps1 Tryd.prog GT 90 cREncS := by
  refine keepsP (T := T0) (A := ann90) inj1 hMix keepT0 hGT (fun f hf => by cases hf) (fun f hf => by cases hf) fun n w0 hn _ => ⟨[.l [.v 0, .v 1, .v 2, .v 3]], [], [], 5, env0 [U (lb n 0), U (lb n 1), U (lb n 2), U (lb n 3)] w0, fun b => b, 0, rfl, rfl, fun X hX => mem_none hX rfl, fun X hP hS hw hX hR => ?_⟩
  subst hw
  rw [vc90 X, hP]
  intro _ _ _ _ _ _
  refine a_eb 0 0 (by decide) rfl ?_
  refine a_eb 0 1 (by decide) rfl ?_
  refine a_eb 0 2 (by decide) rfl ?_
  refine a_eb 0 3 (by decide) rfl ?_
  refine a_eb 0 4 (by decide) rfl ?_
  refine a_eb 0 5 (by decide) rfl ?_
  refine a_eb 0 6 (by decide) rfl ?_
  refine a_eb 0 7 (by decide) rfl ?_
  refine a_eb 1 0 (by decide) rfl ?_
  refine a_eb 1 1 (by decide) rfl ?_
  refine a_eb 1 2 (by decide) rfl ?_
  refine a_eb 1 3 (by decide) rfl ?_
  refine a_eb 1 4 (by decide) rfl ?_
  refine a_eb 1 5 (by decide) rfl ?_
  refine a_eb 1 6 (by decide) rfl ?_
  refine a_eb 1 7 (by decide) rfl ?_
  refine a_eb 2 0 (by decide) rfl ?_
  refine a_eb 2 1 (by decide) rfl ?_
  refine a_eb 2 2 (by decide) rfl ?_
  refine a_eb 2 3 (by decide) rfl ?_
  refine a_eb 2 4 (by decide) rfl ?_
  refine a_eb 2 5 (by decide) rfl ?_
  refine a_eb 2 6 (by decide) rfl ?_
  refine a_eb 2 7 (by decide) rfl ?_
  refine a_eb 3 0 (by decide) rfl ?_
  refine a_eb 3 1 (by decide) rfl ?_
  refine a_eb 3 2 (by decide) rfl ?_
  refine a_eb 3 3 (by decide) rfl ?_
  refine a_eb 3 4 (by decide) rfl ?_
  refine a_eb 3 5 (by decide) rfl ?_
  refine a_eb 3 6 (by decide) rfl ?_
  refine a_eb 3 7 (by decide) rfl ?_
  iterate 32 rw [ask_bplain]
  exact hR _ _ _ _ rfl

def ann130 : Ann := ⟨[], [], 70, [], [], none, [], []⟩
theorem vc130 (X : Ctx) (β : Nat → Nat) (x0 : Value) : (run Tryd.prog ann130 130 [.x (.v 0)] [] [] 2).den X (env0 [x0] X.w0) 2 β 0 (fun _ _ _ => False) = (
  Ask (rAgg 32 x0) fun x2 =>
  AskNew X.w0 fun _ =>
  AskNew X.w0 fun b1 =>
  AskNew X.w0 fun b2 =>
  Ask (rBin X.P .shl 22 false true (U 0) (U 8)) fun x3 =>
  Ask (rSel (aggArr x2) 31 1 false) fun x4 =>
  Ask (rConv X.P 5 22 x4) fun x5 =>
  Ask (rBin X.P .or 22 false false x3 x5) fun x6 =>
  Ask (rPlain x6) fun x7 =>
  Ask (rBin X.P .shl 22 false true x7 (U 8)) fun x8 =>
  Ask (rSel (aggArr x2) 30 1 false) fun x9 =>
  Ask (rConv X.P 5 22 x9) fun x10 =>
  Ask (rBin X.P .or 22 false false x8 x10) fun x11 =>
  Ask (rPlain x11) fun x12 =>
  Ask (rBin X.P .shl 22 false true x12 (U 8)) fun x13 =>
  Ask (rSel (aggArr x2) 29 1 false) fun x14 =>
  Ask (rConv X.P 5 22 x14) fun x15 =>
  Ask (rBin X.P .or 22 false false x13 x15) fun x16 =>
  Ask (rPlain x16) fun x17 =>
  Ask (rBin X.P .shl 22 false true x17 (U 8)) fun x18 =>
  Ask (rSel (aggArr x2) 28 1 false) fun x19 =>
  Ask (rConv X.P 5 22 x19) fun x20 =>
  Ask (rBin X.P .or 22 false false x18 x20) fun x21 =>
  Ask (rPlain x21) fun x22 =>
  Ask (rBin X.P .shl 22 false true x22 (U 8)) fun x23 =>
  Ask (rSel (aggArr x2) 27 1 false) fun x24 =>
  Ask (rConv X.P 5 22 x24) fun x25 =>
  Ask (rBin X.P .or 22 false false x23 x25) fun x26 =>
  Ask (rPlain x26) fun x27 =>
  Ask (rBin X.P .shl 22 false true x27 (U 8)) fun x28 =>
  Ask (rSel (aggArr x2) 26 1 false) fun x29 =>
  Ask (rConv X.P 5 22 x29) fun x30 =>
  Ask (rBin X.P .or 22 false false x28 x30) fun x31 =>
  Ask (rPlain x31) fun x32 =>
  Ask (rBin X.P .shl 22 false true x32 (U 8)) fun x33 =>
  Ask (rSel (aggArr x2) 25 1 false) fun x34 =>
  Ask (rConv X.P 5 22 x34) fun x35 =>
  Ask (rBin X.P .or 22 false false x33 x35) fun x36 =>
  Ask (rPlain x36) fun x37 =>
  Ask (rBin X.P .shl 22 false true x37 (U 8)) fun x38 =>
  Ask (rSel (aggArr x2) 24 1 false) fun x39 =>
  Ask (rConv X.P 5 22 x39) fun x40 =>
  Ask (rBin X.P .or 22 false false x38 x40) fun x41 =>
  Ask (rPlain x41) fun x42 =>
  Ask (rBin X.P .shl 22 false true (U 0) (U 8)) fun x43 =>
  Ask (rSel (aggArr x2) 23 1 false) fun x44 =>
  Ask (rConv X.P 5 22 x44) fun x45 =>
  Ask (rBin X.P .or 22 false false x43 x45) fun x46 =>
  Ask (rPlain x46) fun x47 =>
  Ask (rBin X.P .shl 22 false true x47 (U 8)) fun x48 =>
  Ask (rSel (aggArr x2) 22 1 false) fun x49 =>
  Ask (rConv X.P 5 22 x49) fun x50 =>
  Ask (rBin X.P .or 22 false false x48 x50) fun x51 =>
  Ask (rPlain x51) fun x52 =>
  Ask (rBin X.P .shl 22 false true x52 (U 8)) fun x53 =>
  Ask (rSel (aggArr x2) 21 1 false) fun x54 =>
  Ask (rConv X.P 5 22 x54) fun x55 =>
  Ask (rBin X.P .or 22 false false x53 x55) fun x56 =>
  Ask (rPlain x56) fun x57 =>
  Ask (rBin X.P .shl 22 false true x57 (U 8)) fun x58 =>
  Ask (rSel (aggArr x2) 20 1 false) fun x59 =>
  Ask (rConv X.P 5 22 x59) fun x60 =>
  Ask (rBin X.P .or 22 false false x58 x60) fun x61 =>
  Ask (rPlain x61) fun x62 =>
  Ask (rBin X.P .shl 22 false true x62 (U 8)) fun x63 =>
  Ask (rSel (aggArr x2) 19 1 false) fun x64 =>
  Ask (rConv X.P 5 22 x64) fun x65 =>
  Ask (rBin X.P .or 22 false false x63 x65) fun x66 =>
  Ask (rPlain x66) fun x67 =>
  Ask (rBin X.P .shl 22 false true x67 (U 8)) fun x68 =>
  Ask (rSel (aggArr x2) 18 1 false) fun x69 =>
  Ask (rConv X.P 5 22 x69) fun x70 =>
  Ask (rBin X.P .or 22 false false x68 x70) fun x71 =>
  Ask (rPlain x71) fun x72 =>
  Ask (rBin X.P .shl 22 false true x72 (U 8)) fun x73 =>
  Ask (rSel (aggArr x2) 17 1 false) fun x74 =>
  Ask (rConv X.P 5 22 x74) fun x75 =>
  Ask (rBin X.P .or 22 false false x73 x75) fun x76 =>
  Ask (rPlain x76) fun x77 =>
  Ask (rBin X.P .shl 22 false true x77 (U 8)) fun x78 =>
  Ask (rSel (aggArr x2) 16 1 false) fun x79 =>
  Ask (rConv X.P 5 22 x79) fun x80 =>
  Ask (rBin X.P .or 22 false false x78 x80) fun x81 =>
  Ask (rPlain x81) fun x82 =>
  Ask (rBin X.P .shl 22 false true (U 0) (U 8)) fun x83 =>
  Ask (rSel (aggArr x2) 15 1 false) fun x84 =>
  Ask (rConv X.P 5 22 x84) fun x85 =>
  Ask (rBin X.P .or 22 false false x83 x85) fun x86 =>
  Ask (rPlain x86) fun x87 =>
  Ask (rBin X.P .shl 22 false true x87 (U 8)) fun x88 =>
  Ask (rSel (aggArr x2) 14 1 false) fun x89 =>
  Ask (rConv X.P 5 22 x89) fun x90 =>
  Ask (rBin X.P .or 22 false false x88 x90) fun x91 =>
  Ask (rPlain x91) fun x92 =>
  Ask (rBin X.P .shl 22 false true x92 (U 8)) fun x93 =>
  Ask (rSel (aggArr x2) 13 1 false) fun x94 =>
  Ask (rConv X.P 5 22 x94) fun x95 =>
  Ask (rBin X.P .or 22 false false x93 x95) fun x96 =>
  Ask (rPlain x96) fun x97 =>
  Ask (rBin X.P .shl 22 false true x97 (U 8)) fun x98 =>
  Ask (rSel (aggArr x2) 12 1 false) fun x99 =>
  Ask (rConv X.P 5 22 x99) fun x100 =>
  Ask (rBin X.P .or 22 false false x98 x100) fun x101 =>
  Ask (rPlain x101) fun x102 =>
  Ask (rBin X.P .shl 22 false true x102 (U 8)) fun x103 =>
  Ask (rSel (aggArr x2) 11 1 false) fun x104 =>
  Ask (rConv X.P 5 22 x104) fun x105 =>
  Ask (rBin X.P .or 22 false false x103 x105) fun x106 =>
  Ask (rPlain x106) fun x107 =>
  Ask (rBin X.P .shl 22 false true x107 (U 8)) fun x108 =>
  Ask (rSel (aggArr x2) 10 1 false) fun x109 =>
  Ask (rConv X.P 5 22 x109) fun x110 =>
  Ask (rBin X.P .or 22 false false x108 x110) fun x111 =>
  Ask (rPlain x111) fun x112 =>
  Ask (rBin X.P .shl 22 false true x112 (U 8)) fun x113 =>
  Ask (rSel (aggArr x2) 9 1 false) fun x114 =>
  Ask (rConv X.P 5 22 x114) fun x115 =>
  Ask (rBin X.P .or 22 false false x113 x115) fun x116 =>
  Ask (rPlain x116) fun x117 =>
  Ask (rBin X.P .shl 22 false true x117 (U 8)) fun x118 =>
  Ask (rSel (aggArr x2) 8 1 false) fun x119 =>
  Ask (rConv X.P 5 22 x119) fun x120 =>
  Ask (rBin X.P .or 22 false false x118 x120) fun x121 =>
  Ask (rPlain x121) fun x122 =>
  Ask (rBin X.P .shl 22 false true (U 0) (U 8)) fun x123 =>
  Ask (rSel (aggArr x2) 7 1 false) fun x124 =>
  Ask (rConv X.P 5 22 x124) fun x125 =>
  Ask (rBin X.P .or 22 false false x123 x125) fun x126 =>
  Ask (rPlain x126) fun x127 =>
  Ask (rBin X.P .shl 22 false true x127 (U 8)) fun x128 =>
  Ask (rSel (aggArr x2) 6 1 false) fun x129 =>
  Ask (rConv X.P 5 22 x129) fun x130 =>
  Ask (rBin X.P .or 22 false false x128 x130) fun x131 =>
  Ask (rPlain x131) fun x132 =>
  Ask (rBin X.P .shl 22 false true x132 (U 8)) fun x133 =>
  Ask (rSel (aggArr x2) 5 1 false) fun x134 =>
  Ask (rConv X.P 5 22 x134) fun x135 =>
  Ask (rBin X.P .or 22 false false x133 x135) fun x136 =>
  Ask (rPlain x136) fun x137 =>
  Ask (rBin X.P .shl 22 false true x137 (U 8)) fun x138 =>
  Ask (rSel (aggArr x2) 4 1 false) fun x139 =>
  Ask (rConv X.P 5 22 x139) fun x140 =>
  Ask (rBin X.P .or 22 false false x138 x140) fun x141 =>
  Ask (rPlain x141) fun x142 =>
  Ask (rBin X.P .shl 22 false true x142 (U 8)) fun x143 =>
  Ask (rSel (aggArr x2) 3 1 false) fun x144 =>
  Ask (rConv X.P 5 22 x144) fun x145 =>
  Ask (rBin X.P .or 22 false false x143 x145) fun x146 =>
  Ask (rPlain x146) fun x147 =>
  Ask (rBin X.P .shl 22 false true x147 (U 8)) fun x148 =>
  Ask (rSel (aggArr x2) 2 1 false) fun x149 =>
  Ask (rConv X.P 5 22 x149) fun x150 =>
  Ask (rBin X.P .or 22 false false x148 x150) fun x151 =>
  Ask (rPlain x151) fun x152 =>
  Ask (rBin X.P .shl 22 false true x152 (U 8)) fun x153 =>
  Ask (rSel (aggArr x2) 1 1 false) fun x154 =>
  Ask (rConv X.P 5 22 x154) fun x155 =>
  Ask (rBin X.P .or 22 false false x153 x155) fun x156 =>
  Ask (rPlain x156) fun x157 =>
  Ask (rBin X.P .shl 22 false true x157 (U 8)) fun x158 =>
  Ask (rSel (aggArr x2) 0 1 false) fun x159 =>
  Ask (rConv X.P 5 22 x159) fun x160 =>
  Ask (rBin X.P .or 22 false false x158 x160) fun x161 =>
  Ask (rPlain x161) fun x162 =>
  Ask (rPlain x162) fun x163 =>
  Ask (rPlain x122) fun x164 =>
  Ask (rPlain x82) fun x165 =>
  Ask (rPlain x42) fun x166 =>
  Ret X X.w0 [b1, b2, b2, b2, b2, b2, b2, b2, b2, b2, b2, b2, b2, b2, b2, b2, b2, b2, b2, b2, b2, b2, b2, b2, b2, b2, b2, b2, b2, b2, b2, b2, b2] [] (.agg #[x163, x164, x165, x166])) := by kernel_rfl
theorem keepsLimbs : Keeps1 Tryd.prog GT 130 cFromB := by
  refine keepsP (T := T0) (A := ann130) injBy hMix keepT0 hGT (fun f hf => by cases hf) (fun f hf => by cases hf) fun n w0 hn _ => ⟨[.x (.v 0)], [], [], 2, env0 [BS n] w0, fun b => b, 0, rfl, rfl, fun X hX => mem_none hX rfl, fun X hP hS hw hX hR => ?_⟩
  subst hw
  rw [vc130 X, hP]
  rw [ask_aggB]; intro _ _ _ _ _ _
  have z : ∀ j, 0 = lb n j / 256 ^ (7 + 1) := fun j => (Nat.div_eq_of_lt (lb_lt n j)).symm
  refine a_lm 3 7 (by decide) rfl (by decide) (z 3) fun a37 e37 => ?_
  refine a_lm 3 6 (by decide) rfl (by decide) e37 fun a36 e36 => ?_
  refine a_lm 3 5 (by decide) rfl (by decide) e36 fun a35 e35 => ?_
  refine a_lm 3 4 (by decide) rfl (by decide) e35 fun a34 e34 => ?_
  refine a_lm 3 3 (by decide) rfl (by decide) e34 fun a33 e33 => ?_
  refine a_lm 3 2 (by decide) rfl (by decide) e33 fun a32 e32 => ?_
  refine a_lm 3 1 (by decide) rfl (by decide) e32 fun a31 e31 => ?_
  refine a_lm 3 0 (by decide) rfl (by decide) e31 fun a30 e30 => ?_
  refine a_lm 2 7 (by decide) rfl (by decide) (z 2) fun a27 e27 => ?_
  refine a_lm 2 6 (by decide) rfl (by decide) e27 fun a26 e26 => ?_
  refine a_lm 2 5 (by decide) rfl (by decide) e26 fun a25 e25 => ?_
  refine a_lm 2 4 (by decide) rfl (by decide) e25 fun a24 e24 => ?_
  refine a_lm 2 3 (by decide) rfl (by decide) e24 fun a23 e23 => ?_
  refine a_lm 2 2 (by decide) rfl (by decide) e23 fun a22 e22 => ?_
  refine a_lm 2 1 (by decide) rfl (by decide) e22 fun a21 e21 => ?_
  refine a_lm 2 0 (by decide) rfl (by decide) e21 fun a20 e20 => ?_
  refine a_lm 1 7 (by decide) rfl (by decide) (z 1) fun a17 e17 => ?_
  refine a_lm 1 6 (by decide) rfl (by decide) e17 fun a16 e16 => ?_
  refine a_lm 1 5 (by decide) rfl (by decide) e16 fun a15 e15 => ?_
  refine a_lm 1 4 (by decide) rfl (by decide) e15 fun a14 e14 => ?_
  refine a_lm 1 3 (by decide) rfl (by decide) e14 fun a13 e13 => ?_
  refine a_lm 1 2 (by decide) rfl (by decide) e13 fun a12 e12 => ?_
  refine a_lm 1 1 (by decide) rfl (by decide) e12 fun a11 e11 => ?_
  refine a_lm 1 0 (by decide) rfl (by decide) e11 fun a10 e10 => ?_
  refine a_lm 0 7 (by decide) rfl (by decide) (z 0) fun a07 e07 => ?_
  refine a_lm 0 6 (by decide) rfl (by decide) e07 fun a06 e06 => ?_
  refine a_lm 0 5 (by decide) rfl (by decide) e06 fun a05 e05 => ?_
  refine a_lm 0 4 (by decide) rfl (by decide) e05 fun a04 e04 => ?_
  refine a_lm 0 3 (by decide) rfl (by decide) e04 fun a03 e03 => ?_
  refine a_lm 0 2 (by decide) rfl (by decide) e03 fun a02 e02 => ?_
  refine a_lm 0 1 (by decide) rfl (by decide) e02 fun a01 e01 => ?_
  refine a_lm 0 0 (by decide) rfl (by decide) e01 fun a00 e00 => ?_
  rw [Nat.pow_zero, Nat.div_one] at e00 e10 e20 e30
  subst e00; subst e10; subst e20; subst e30
  rw [ask_uplain, ask_uplain, ask_uplain, ask_uplain]
  exact hR _ _ _ _ rfl

def ann94 : Ann := ⟨[], [130, 109, 110], 70, [], [2, 4], none, [], []⟩
theorem vc94 (X : Ctx) (β : Nat → Nat) (x0 : Value) : (run Tryd.prog ann94 94 [.x (.v 0)] [] [] 2).den X (env0 [x0] X.w0) 2 β 0 (fun _ _ _ => False) = (
  Ask (rAgg 32 x0) fun x2 =>
  AskNew X.w0 fun _ =>
  Ask (rAgg 4 (.agg #[(U 0), (U 0), (U 0), (U 0)])) fun _ =>
  AskNew X.w0 fun b1 =>
  AskF X 130 [x2] fun x4 =>
  Ask (rAgg 4 (.agg #[(U 0), (U 0), (U 0), (U 0)])) fun _ =>
  AskNew X.w0 fun b2 =>
  Ask (rAgg 4 x4) fun x6 =>
  AskF X 110 [] fun x7 =>
  AskF X 109 [x6, x7] fun x8 =>
  Ask (rUn X.P .not x8) fun x9 =>
  (∃ t, x9 = .bool t) ∧ (x9 = .bool true →
    Ask (rAgg 4 (.agg #[(U 0), (U 0), (U 0), (U 0)])) fun x10 =>
    Ret X X.w0 [b1, b2] [] (.tuple #[x10, (J 3)])) ∧ (x9 = .bool false →
    Ask (rAgg 4 x6) fun x10 =>
    Ret X X.w0 [b1, b2] [] (.tuple #[x10, (J 0)]))) := by kernel_rfl
def Trd : Table := ((T0.add 130 cFromB).add 109 cRbelow).add 110 cRl
theorem keepTrd : AllKeep Tryd.prog GT Trd := ((keepT0.add keepsLimbs).add keepsRbelow).add keepsRl
theorem keepsRDec : Keeps1 Tryd.prog GT 94 cDecS := by
  refine keepsP (T := Trd) (A := ann94) injBy hMix keepTrd hGT (fun f hf => by
      simp only [ann94, List.mem_cons, List.not_mem_nil, or_false] at hf
      rcases hf with rfl | rfl | rfl <;> intros <;> kernel_rfl) (fun f hf => by cases hf) fun n w0 hn _ => ⟨[.x (.v 0)], [], [], 2, env0 [BS n] w0, fun b => b, 0, rfl, rfl, fun X hX => mem_none hX rfl, fun X hP hS hw hX hR => ?_⟩
  subst hw
  rw [vc94 X]
  rw [ask_aggB]; intro _ _; rw [ask_zero4]; intro _ _
  refine call_PE hS (T := Trd) (f := 130) rfl n hn ?_
  rw [ask_zero4]; intro _ _; rw [ask_aggS]
  refine call_PE hS (T := Trd) (f := 110) rfl () trivial ?_
  refine call_PE hS (T := Trd) (f := 109) rfl (n, lN) ⟨hn, lN_lt⟩ ?_
  dsimp only
  rw [ask_not]
  refine a_ifN (fun h => ?_) fun h => ?_
  · rw [ask_zero4]
    refine hR _ _ _ _ ?_
    rw [if_neg h]
  · rw [ask_aggS]
    refine hR _ _ _ _ ?_
    rw [if_pos h]
end Go.Vc
