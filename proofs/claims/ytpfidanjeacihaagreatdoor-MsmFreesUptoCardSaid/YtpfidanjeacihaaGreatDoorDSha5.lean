/-
  SHA-512: the hash of what was written, on the program's side.
-/
import Derived.Test.YtpfidanjeacihaaGreatDoorDSha4
import Derived.Test.YtpfidanjeacihaaGreatDoorDProd
namespace Go.Vc
open Go Go.Proofs Go.RowKit

/-! ### the end of a hash -/
/-- A word's bytes, the highest first. -/
def be8 (x : Nat) : List Nat := (List.range 8).map fun i => x / 2 ^ (56 - 8 * i) % 256
theorem be8_len (x : Nat) : (be8 x).length = 8 := by simp [be8]
theorem be8_lt (x : Nat) : ∀ y ∈ be8 x, y < 256 := fun y hy => by
  simp only [be8, List.mem_map] at hy
  obtain ⟨_, _, rfl⟩ := hy
  exact Nat.mod_lt _ (by decide)
def dig (hs : List Nat) : List Nat := hs.flatMap be8
theorem dig_len' (hs : List Nat) : (dig hs).length = 8 * hs.length := by
  induction hs with
  | nil => rfl
  | cons a r ih => rw [dig, List.flatMap_cons, List.length_append, be8_len, ← dig, ih, List.length_cons]; omega
theorem dig_len {hs : List Nat} (h : hs.length = 8) : (dig hs).length = 64 := by rw [dig_len', h]
theorem dig_lt {hs : List Nat} : ∀ y ∈ dig hs, y < 256 := fun y hy => by
  simp only [dig, List.mem_flatMap] at hy
  obtain ⟨a, _, h⟩ := hy
  exact be8_lt a y h
theorem dig_at {hs : List Nat} {i j : Nat} (hi : i < hs.length) (hj : j < 8) : (dig hs).getD (8 * i + j) 0 = hs.getD i 0 / 2 ^ (56 - 8 * j) % 256 := by
  have h1 : hs[i]? = some hs[i] := List.getElem?_eq_getElem hi
  have : ∀ (l : List Nat) (i x : Nat), l[i]? = some x → (l.flatMap be8)[8 * i + j]? = some (x / 2 ^ (56 - 8 * j) % 256) := by
    intro l
    induction l with
    | nil => intro i x h; simp at h
    | cons a r ih =>
      intro i x h
      rw [List.flatMap_cons]
      cases i with
      | zero =>
        simp at h; subst h
        rw [List.getElem?_append_left (by rw [be8_len]; omega)]
        simp [be8, hj]
      | succ i =>
        rw [List.getElem?_append_right (by rw [be8_len]; omega), be8_len, show 8 * (i + 1) + j - 8 = 8 * i + j by omega]
        exact ih i x (by simpa using h)
  rw [List.getD_eq_getElem?_getD, dig, this hs i _ h1, List.getD_eq_getElem?_getD, h1]
  rfl
/-- The bytes behind a message in its last block but for its length. -/
def endB (bs : List Nat) (k : Nat) : List Nat := bs.take k ++ 128 :: List.replicate (127 - k) 0
def lenB (bs : List Nat) (n : Nat) : List Nat := bs.take 112 ++ be8 (n * 8 / B64) ++ be8 (n * 8 % B64)
def fin (hs bs : List Nat) (n : Nat) : List Nat :=
  if 112 ≤ n % 128 then cpr (cpr hs (endB bs (n % 128))) (lenB (List.replicate 128 0) n) else cpr hs (lenB (endB bs (n % 128)) n)
theorem endB_eq {bs : List Nat} {k : Nat} (hl : bs.length = 128) (hk : k < 128) : bput (bput bs k (List.replicate (128 - k) 0)) k [128] = endB bs k := by
  have e : bput bs k (List.replicate (128 - k) 0) = bs.take k ++ List.replicate (128 - k) 0 := by
    unfold bput
    rw [List.drop_of_length_le (by simp [hl]; omega), List.append_nil]
  rw [e]
  unfold bput endB
  have hkl : (bs.take k).length = k := by simp [hl]; omega
  rw [List.take_append_of_le_length (by omega), List.take_of_length_le (by omega), List.drop_append, List.drop_of_length_le (by simp; omega), hkl]
  simp
  omega
/-- The length's bytes, as they are written. -/
def wrB (bs : List Nat) (hi lo : Nat) : Nat → List Nat
  | 0 => bs
  | i + 1 => bput (bput (wrB bs hi lo i) (119 - i) [hi / 2 ^ (8 * i) % 256]) (127 - i) [lo / 2 ^ (8 * i) % 256]
theorem bput_set {bs : List Nat} {k x : Nat} (h : k < bs.length) : bput bs k [x] = bs.set k x := by
  unfold bput
  rw [List.set_eq_take_append_cons_drop, if_pos h]
  simp
theorem wrB_len {bs : List Nat} {hi lo : Nat} (h : bs.length = 128) : ∀ i, (wrB bs hi lo i).length = 128
  | 0 => h
  | i + 1 => by
    have := wrB_len h (hi := hi) (lo := lo) i
    have h1 := bput_len (bs := wrB bs hi lo i) (ys := [hi / 2 ^ (8 * i) % 256]) (k := 119 - i) (by simp; omega)
    rw [wrB, bput_len (by simp; omega), h1]; exact this
theorem list16 (t : List Nat) (h : t.length = 16) : ∃ a b c d e f g i j k l m n o p q, t = [a, b, c, d, e, f, g, i, j, k, l, m, n, o, p, q] := by
  match t, h with
  | [a, b, c, d, e, f, g, i, j, k, l, m, n, o, p, q], _ => exact ⟨_, _, _, _, _, _, _, _, _, _, _, _, _, _, _, _, rfl⟩
theorem wrB_set {bs : List Nat} {hi lo : Nat} (h : bs.length = 128) (i : Nat) : wrB bs hi lo (i + 1) = ((wrB bs hi lo i).set (119 - i) (hi / 2 ^ (8 * i) % 256)).set (127 - i) (lo / 2 ^ (8 * i) % 256) := by
  have := wrB_len h (hi := hi) (lo := lo) i
  rw [wrB, bput_set (bs := wrB bs hi lo i) (by omega), bput_set (by rw [List.length_set]; omega)]
theorem set_hi {a t : List Nat} {k x : Nat} (ha : a.length = 112) (hk : 112 ≤ k) : (a ++ t).set k x = a ++ t.set (k - 112) x := by
  rw [List.set_append_right _ _ (by omega), ha]
theorem wrB8 {bs : List Nat} {hi lo : Nat} (h : bs.length = 128) : wrB bs hi lo 8 = bs.take 112 ++ be8 hi ++ be8 lo := by
  have e : bs = bs.take 112 ++ bs.drop 112 := (List.take_append_drop 112 bs).symm
  have ha : (bs.take 112).length = 112 := by simp [h]
  obtain ⟨a, b, c, d, e', f, g, i, j, k, l, m, n, o, p, q, ht⟩ := list16 (bs.drop 112) (by simp [h])
  simp only [wrB_set h]
  rw [show wrB bs hi lo 0 = bs.take 112 ++ bs.drop 112 from e, ht]
  generalize bs.take 112 = A at ha
  simp only [set_hi ha, (by omega : 112 ≤ 119 - 0), (by omega : 112 ≤ 127 - 0), (by omega : 112 ≤ 119 - 1), (by omega : 112 ≤ 127 - 1), (by omega : 112 ≤ 119 - 2), (by omega : 112 ≤ 127 - 2), (by omega : 112 ≤ 119 - 3), (by omega : 112 ≤ 127 - 3), (by omega : 112 ≤ 119 - 4), (by omega : 112 ≤ 127 - 4), (by omega : 112 ≤ 119 - 5), (by omega : 112 ≤ 127 - 5), (by omega : 112 ≤ 119 - 6), (by omega : 112 ≤ 127 - 6), (by omega : 112 ≤ 119 - 7), (by omega : 112 ≤ 127 - 7)]
  rw [List.append_assoc]
  rfl
theorem out_set {l : List Nat} {k m : Nat} (h : k < l.length) : (l.take k ++ List.replicate (m + 1) 0).set k (l.getD k 0) = l.take (k + 1) ++ List.replicate m 0 := by
  have hl : (l.take k).length = k := by rw [List.length_take]; omega
  rw [List.set_append_right _ _ (by omega), hl, Nat.sub_self, List.replicate_succ, List.set_cons_zero, List.take_succ_eq_append_getElem h, List.getD_eq_getElem?_getD, List.getElem?_eq_getElem h, List.append_assoc]
  rfl
theorem ask_j2u {n : Nat} (h : n < B64) {K : Value → Prop} : Ask (rConv Tryz.prog 3 23 (J n)) K = K (U n) :=
  ask_eq (runs_iff fun w => by
    have h1 : (convert 3 23 (J n)).run Tryz.prog w = .ok (.int .u64 (IntKind.u64.wrap (n : Int))) w := by kernel_rfl
    rw [h1, wrap_u64, Nat.mod_eq_of_lt h]; rfl)

/-! ### State.Sum -/
def ann105 : Ann := ⟨[(13, ([40], [])), (20, ([65], [0, 1])), (23, ([69], [1]))], [86], 70, [(137, false), (138, true)], [2, 3], none, [4], []⟩
def kb105_0 (b0 b1 : Nat) (x2 x3 : Value) : List KB := [⟨b0, true, 117, (aggArr x2)⟩, ⟨b1, true, 117, (aggArr x3)⟩]
def kb105_1 (b0 b1 : Nat) (x36 x37 : Value) : List KB := [⟨b0, true, 117, (aggArr x36)⟩, ⟨b1, true, 117, (aggArr x37)⟩]
def kb105_2 (b0 b1 : Nat) (x32 x33 : Value) : List KB := [⟨b0, true, 117, (aggArr x32)⟩, ⟨b1, true, 117, (aggArr x33)⟩]
theorem vc105 (X : Ctx) (β : Nat → Nat) (x0 : Value) : (run Tryz.prog ann105 105 [.x (.v 0)] [] [] 2).den X (env0 [x0] X.w0) 2 β 0 (fun _ _ _ => False) = (
  Ask (rAgg 64 (.agg #[(.int .u8 0), (.int .u8 0), (.int .u8 0), (.int .u8 0), (.int .u8 0), (.int .u8 0), (.int .u8 0), (.int .u8 0), (.int .u8 0), (.int .u8 0), (.int .u8 0), (.int .u8 0), (.int .u8 0), (.int .u8 0), (.int .u8 0), (.int .u8 0), (.int .u8 0), (.int .u8 0), (.int .u8 0), (.int .u8 0), (.int .u8 0), (.int .u8 0), (.int .u8 0), (.int .u8 0), (.int .u8 0), (.int .u8 0), (.int .u8 0), (.int .u8 0), (.int .u8 0), (.int .u8 0), (.int .u8 0), (.int .u8 0), (.int .u8 0), (.int .u8 0), (.int .u8 0), (.int .u8 0), (.int .u8 0), (.int .u8 0), (.int .u8 0), (.int .u8 0), (.int .u8 0), (.int .u8 0), (.int .u8 0), (.int .u8 0), (.int .u8 0), (.int .u8 0), (.int .u8 0), (.int .u8 0), (.int .u8 0), (.int .u8 0), (.int .u8 0), (.int .u8 0), (.int .u8 0), (.int .u8 0), (.int .u8 0), (.int .u8 0), (.int .u8 0), (.int .u8 0), (.int .u8 0), (.int .u8 0), (.int .u8 0), (.int .u8 0), (.int .u8 0), (.int .u8 0)])) fun x2 =>
  AskNew X.w0 fun b0 =>
  Ask (rAgg 64 (.agg #[(.int .u8 0), (.int .u8 0), (.int .u8 0), (.int .u8 0), (.int .u8 0), (.int .u8 0), (.int .u8 0), (.int .u8 0), (.int .u8 0), (.int .u8 0), (.int .u8 0), (.int .u8 0), (.int .u8 0), (.int .u8 0), (.int .u8 0), (.int .u8 0), (.int .u8 0), (.int .u8 0), (.int .u8 0), (.int .u8 0), (.int .u8 0), (.int .u8 0), (.int .u8 0), (.int .u8 0), (.int .u8 0), (.int .u8 0), (.int .u8 0), (.int .u8 0), (.int .u8 0), (.int .u8 0), (.int .u8 0), (.int .u8 0), (.int .u8 0), (.int .u8 0), (.int .u8 0), (.int .u8 0), (.int .u8 0), (.int .u8 0), (.int .u8 0), (.int .u8 0), (.int .u8 0), (.int .u8 0), (.int .u8 0), (.int .u8 0), (.int .u8 0), (.int .u8 0), (.int .u8 0), (.int .u8 0), (.int .u8 0), (.int .u8 0), (.int .u8 0), (.int .u8 0), (.int .u8 0), (.int .u8 0), (.int .u8 0), (.int .u8 0), (.int .u8 0), (.int .u8 0), (.int .u8 0), (.int .u8 0), (.int .u8 0), (.int .u8 0), (.int .u8 0), (.int .u8 0)])) fun x3 =>
  AskNew X.w0 fun b1 =>
  AskW X X.w0 [] (kb105_0 b0 b1 x2 x3) false 137 [x0] fun x4 w4 =>
  (∃ t, x4 = .bool t) ∧ (x4 = .bool true →
    Ask (rAgg 64 x3) fun x5 =>
    Ret X w4 [b0] [] x5) ∧ (x4 = .bool false →
    Ask (rGen X.P (Go.Op.nilCheck (Go.Operand.tmp 15)) 0 [(15, x0)]) fun x5 =>
    Ask (rLoad X w4 [] 203 x5) fun x6 =>
    AskO X w4 [] (kb105_0 b0 b1 x2 x3) false (Go.Op.alloc 203) 0 [] fun x7 w7 =>
    AskO X w7 [] (kb105_0 b0 b1 x2 x3) true (Go.Op.store 203 (Go.Operand.tmp 4) (Go.Operand.tmp 17)) 0 [(4, x7), (17, x6)] fun _ w8 =>
    Ask (rFad X.P 203 x7 2) fun x9 =>
    Ask (rLoad X w8 [] 3 x9) fun x10 =>
    Ask (rBin X.P .rem 3 false true x10 (J 128)) fun x11 =>
    Ask (rFad X.P 203 x7 1) fun x12 =>
    Ask (rSlc X.P 201 x12 (some x11) none none) fun x13 =>
    AskO X w8 [] (kb105_0 b0 b1 x2 x3) true (Go.Op.call { callee := Go.Callee.builtin Go.Builtin.clear, args := #[Go.Operand.tmp 23], argTypes := #[114] }) 0 [(23, x13)] fun _ w14 =>
    Ask (rFad X.P 203 x7 1) fun x15 =>
    Ask (rIad X.P 201 x15 x11) fun x16 =>
    AskO X w14 [] (kb105_0 b0 b1 x2 x3) true (Go.Op.store 5 (Go.Operand.tmp 26) (Go.Operand.const (Go.Value.int Go.IntKind.u8 128))) 0 [(26, x16)] fun _ w17 =>
    Ask (rBin X.P .geq 3 false true x11 (J 112)) fun x18 =>
    (∃ t, x18 = .bool t) ∧ (x18 = .bool true →
      AskW X w17 [] (kb105_0 b0 b1 x2 x3) true 138 [x7] fun _ w19 =>
      Ask (rFad X.P 203 x7 1) fun x20 =>
      Ask (rSlc X.P 201 x20 none none none) fun x21 =>
      AskO X w19 [] (kb105_0 b0 b1 x2 x3) true (Go.Op.call { callee := Go.Callee.builtin Go.Builtin.clear, args := #[Go.Operand.tmp 32], argTypes := #[114] }) 0 [(32, x21)] fun _ w22 =>
      Ask (rFad X.P 203 x7 2) fun x23 =>
      Ask (rLoad X w22 [] 3 x23) fun x24 =>
      Ask (rConv X.P 3 23 x24) fun x25 =>
      AskF X 86 [x25, (U 8)] fun x26 =>
      Ask (rExt X.P x26 0) fun x27 =>
      Ask (rExt X.P x26 1) fun x28 =>
      ∃ (I0 : List Value → World → Prop) (μ0 : List Value → World → Nat), (∀ w, KnownV X w22 [] (kb105_0 b0 b1 x2 x3) w → I0 [(J 0)] w) ∧ ∀ x29 w30, I0 [x29] w30 →
        Ask (rBin X.P .lss 3 false true x29 (J 8)) fun x31 =>
        (∃ t, x31 = .bool t) ∧ (x31 = .bool true →
          Ask (rBin X.P .sub 3 true false (J 119) x29) fun x32 =>
          Ask (rBin X.P .mul 3 true false (J 8) x29) fun x33 =>
          Ask (rBin X.P .shr 23 false false x27 x33) fun x34 =>
          Ask (rConv X.P 23 5 x34) fun x35 =>
          Ask (rFad X.P 203 x7 1) fun x36 =>
          Ask (rIad X.P 201 x36 x32) fun x37 =>
          AskO X w30 [] (kb105_0 b0 b1 x2 x3) true (Go.Op.store 5 (Go.Operand.tmp 51) (Go.Operand.tmp 49)) 0 [(51, x37), (49, x35)] fun _ w38 =>
          Ask (rBin X.P .sub 3 true false (J 127) x29) fun x39 =>
          Ask (rBin X.P .mul 3 true false (J 8) x29) fun x40 =>
          Ask (rBin X.P .shr 23 false false x28 x40) fun x41 =>
          Ask (rConv X.P 23 5 x41) fun x42 =>
          Ask (rFad X.P 203 x7 1) fun x43 =>
          Ask (rIad X.P 201 x43 x39) fun x44 =>
          AskO X w38 [] (kb105_0 b0 b1 x2 x3) true (Go.Op.store 5 (Go.Operand.tmp 60) (Go.Operand.tmp 58)) 0 [(60, x44), (58, x42)] fun _ w45 =>
          Ask (rBin X.P .add 3 false true x29 (J 1)) fun x46 =>
          Again X w45 [] [] fun w => I0 [x46] w ∧ μ0 [x46] w < μ0 [x29] w30) ∧ (x31 = .bool false →
          AskW X w30 [] (kb105_0 b0 b1 x2 x3) true 138 [x7] fun _ w32 =>
          Ask (rFad X.P 203 x7 0) fun x33 =>
          Ask (rLoad X w32 [] 165 x33) fun x34 =>
          ∃ (I0 : List Value → World → Prop) (μ0 : List Value → World → Nat), (∀ w, KnownV X w32 [] (kb105_0 b0 b1 x2 x3) w → I0 [(J 0), x2, x3] w) ∧ ∀ x35 x36 x37 w38, I0 [x35, x36, x37] w38 →
            Ask (rBin X.P .lss 3 false true x35 (J 8)) fun x39 =>
            (∃ t, x39 = .bool t) ∧ (x39 = .bool true →
              Ask (rIdx X.P 165 x34 x35) fun x40 =>
              ∃ (I1 : List Value → World → Prop) (μ1 : List Value → World → Nat), (∀ w, KnownV X w38 [] (kb105_1 b0 b1 x36 x37) w → I1 [(J 0), x37] w) ∧ ∀ x41 x42 w43, I1 [x41, x42] w43 →
                Ask (rBin X.P .lss 3 false true x41 (J 8)) fun x44 =>
                (∃ t, x44 = .bool t) ∧ (x44 = .bool true →
                  Ask (rBin X.P .mul 3 true false (J 8) x35) fun x45 =>
                  Ask (rBin X.P .add 3 false false x45 x41) fun x46 =>
                  Ask (rBin X.P .mul 3 true false (J 8) x41) fun x47 =>
                  Ask (rBin X.P .sub 3 true false (J 56) x47) fun x48 =>
                  Ask (rBin X.P .shr 23 false false x40 x48) fun x49 =>
                  Ask (rConv X.P 23 5 x49) fun x50 =>
                  Ask (rIx 64 x46) fun x51 =>
                  Ask (rUpd (aggArr x42) (0 + intNat x51 * 1) 1 x50) fun x52 =>
                  Ask (rBin X.P .add 3 false true x41 (J 1)) fun x53 =>
                  Again X w43 [b1] [] fun w => I1 [x53, x52] w ∧ μ1 [x53, x52] w < μ1 [x41, x42] w43) ∧ (x44 = .bool false →
                  Ask (rBin X.P .add 3 false true x35 (J 1)) fun x45 =>
                  Again X w43 [] [] fun w => I0 [x45, x36, x42] w ∧ μ0 [x45, x36, x42] w < μ0 [x35, x36, x37] w38)) ∧ (x39 = .bool false →
              Ask (rAgg 64 x37) fun x40 =>
              Ret X w38 [b0] [] x40))) ∧ (x18 = .bool false →
      Ask (rFad X.P 203 x7 2) fun x19 =>
      Ask (rLoad X w17 [] 3 x19) fun x20 =>
      Ask (rConv X.P 3 23 x20) fun x21 =>
      AskF X 86 [x21, (U 8)] fun x22 =>
      Ask (rExt X.P x22 0) fun x23 =>
      Ask (rExt X.P x22 1) fun x24 =>
      ∃ (I0 : List Value → World → Prop) (μ0 : List Value → World → Nat), (∀ w, KnownV X w17 [] (kb105_0 b0 b1 x2 x3) w → I0 [(J 0)] w) ∧ ∀ x25 w26, I0 [x25] w26 →
        Ask (rBin X.P .lss 3 false true x25 (J 8)) fun x27 =>
        (∃ t, x27 = .bool t) ∧ (x27 = .bool true →
          Ask (rBin X.P .sub 3 true false (J 119) x25) fun x28 =>
          Ask (rBin X.P .mul 3 true false (J 8) x25) fun x29 =>
          Ask (rBin X.P .shr 23 false false x23 x29) fun x30 =>
          Ask (rConv X.P 23 5 x30) fun x31 =>
          Ask (rFad X.P 203 x7 1) fun x32 =>
          Ask (rIad X.P 201 x32 x28) fun x33 =>
          AskO X w26 [] (kb105_0 b0 b1 x2 x3) true (Go.Op.store 5 (Go.Operand.tmp 51) (Go.Operand.tmp 49)) 0 [(51, x33), (49, x31)] fun _ w34 =>
          Ask (rBin X.P .sub 3 true false (J 127) x25) fun x35 =>
          Ask (rBin X.P .mul 3 true false (J 8) x25) fun x36 =>
          Ask (rBin X.P .shr 23 false false x24 x36) fun x37 =>
          Ask (rConv X.P 23 5 x37) fun x38 =>
          Ask (rFad X.P 203 x7 1) fun x39 =>
          Ask (rIad X.P 201 x39 x35) fun x40 =>
          AskO X w34 [] (kb105_0 b0 b1 x2 x3) true (Go.Op.store 5 (Go.Operand.tmp 60) (Go.Operand.tmp 58)) 0 [(60, x40), (58, x38)] fun _ w41 =>
          Ask (rBin X.P .add 3 false true x25 (J 1)) fun x42 =>
          Again X w41 [] [] fun w => I0 [x42] w ∧ μ0 [x42] w < μ0 [x25] w26) ∧ (x27 = .bool false →
          AskW X w26 [] (kb105_0 b0 b1 x2 x3) true 138 [x7] fun _ w28 =>
          Ask (rFad X.P 203 x7 0) fun x29 =>
          Ask (rLoad X w28 [] 165 x29) fun x30 =>
          ∃ (I0 : List Value → World → Prop) (μ0 : List Value → World → Nat), (∀ w, KnownV X w28 [] (kb105_0 b0 b1 x2 x3) w → I0 [(J 0), x2, x3] w) ∧ ∀ x31 x32 x33 w34, I0 [x31, x32, x33] w34 →
            Ask (rBin X.P .lss 3 false true x31 (J 8)) fun x35 =>
            (∃ t, x35 = .bool t) ∧ (x35 = .bool true →
              Ask (rIdx X.P 165 x30 x31) fun x36 =>
              ∃ (I1 : List Value → World → Prop) (μ1 : List Value → World → Nat), (∀ w, KnownV X w34 [] (kb105_2 b0 b1 x32 x33) w → I1 [(J 0), x33] w) ∧ ∀ x37 x38 w39, I1 [x37, x38] w39 →
                Ask (rBin X.P .lss 3 false true x37 (J 8)) fun x40 =>
                (∃ t, x40 = .bool t) ∧ (x40 = .bool true →
                  Ask (rBin X.P .mul 3 true false (J 8) x31) fun x41 =>
                  Ask (rBin X.P .add 3 false false x41 x37) fun x42 =>
                  Ask (rBin X.P .mul 3 true false (J 8) x37) fun x43 =>
                  Ask (rBin X.P .sub 3 true false (J 56) x43) fun x44 =>
                  Ask (rBin X.P .shr 23 false false x36 x44) fun x45 =>
                  Ask (rConv X.P 23 5 x45) fun x46 =>
                  Ask (rIx 64 x42) fun x47 =>
                  Ask (rUpd (aggArr x38) (0 + intNat x47 * 1) 1 x46) fun x48 =>
                  Ask (rBin X.P .add 3 false true x37 (J 1)) fun x49 =>
                  Again X w39 [b1] [] fun w => I1 [x49, x48] w ∧ μ1 [x49, x48] w < μ1 [x37, x38] w39) ∧ (x40 = .bool false →
                  Ask (rBin X.P .add 3 false true x31 (J 1)) fun x41 =>
                  Again X w39 [] [] fun w => I0 [x41, x32, x38] w ∧ μ0 [x41, x32, x38] w < μ0 [x31, x32, x33] w34)) ∧ (x35 = .bool false →
              Ask (rAgg 64 x33) fun x36 =>
              Ret X w34 [b0] [] x36))))) := by kernel_rfl
def Tfi : Table := ((T0.add 86 cMul64S).add 137 cNone).add 138 cTake
theorem keepTfi : AllKeep Tryz.prog GH Tfi := ((keepH0.add (keepsMul64.inG gGT)).add keepsNone).add keepsTake
def zSt : Value := .agg (List.replicate 8 (U 0) ++ List.replicate 128 (B 0) ++ [J 0, .bool false]).toArray
theorem zSt_len : zSt.cells.toList.length = 138 := by kernel_rfl
theorem zSt_size : zSt.cells.size = 138 := by kernel_rfl
theorem zeSt : (Tryz.prog.info? 203).bind (·.zero) = some zSt := by kernel_rfl
theorem szSt : sz Tryz.prog 203 = some 138 := by kernel_rfl
theorem aggSt : agg? Tryz.prog 203 = some true := by kernel_rfl
theorem zeB : (Tryz.prog.info? 5).bind (·.zero) = some (B 0) := by kernel_rfl
theorem one_stC (hs bs : List Nat) (n : Nat) : (stC hs bs n).all (·.oneCell') = true := by simp [stC, U, B, Value.oneCell']
theorem mapB_rep (n x : Nat) : (List.replicate n x).map B = List.replicate n (B x) := by simp
theorem zeros64 : Value.agg #[(.int .u8 0), (.int .u8 0), (.int .u8 0), (.int .u8 0), (.int .u8 0), (.int .u8 0), (.int .u8 0), (.int .u8 0), (.int .u8 0), (.int .u8 0), (.int .u8 0), (.int .u8 0), (.int .u8 0), (.int .u8 0), (.int .u8 0), (.int .u8 0), (.int .u8 0), (.int .u8 0), (.int .u8 0), (.int .u8 0), (.int .u8 0), (.int .u8 0), (.int .u8 0), (.int .u8 0), (.int .u8 0), (.int .u8 0), (.int .u8 0), (.int .u8 0), (.int .u8 0), (.int .u8 0), (.int .u8 0), (.int .u8 0), (.int .u8 0), (.int .u8 0), (.int .u8 0), (.int .u8 0), (.int .u8 0), (.int .u8 0), (.int .u8 0), (.int .u8 0), (.int .u8 0), (.int .u8 0), (.int .u8 0), (.int .u8 0), (.int .u8 0), (.int .u8 0), (.int .u8 0), (.int .u8 0), (.int .u8 0), (.int .u8 0), (.int .u8 0), (.int .u8 0), (.int .u8 0), (.int .u8 0), (.int .u8 0), (.int .u8 0), (.int .u8 0), (.int .u8 0), (.int .u8 0), (.int .u8 0), (.int .u8 0), (.int .u8 0), (.int .u8 0), (.int .u8 0)] = BA (List.replicate 64 0) := by kernel_rfl
def cFin : Contract := fnW cSt (fun p _ => p.2.2.2 ≤ 2 ^ 60) (fun p _ v _ => v = BA (dig (fin p.2.1 p.2.2.1 p.2.2.2)))
theorem keepsFin : Keeps1 Tryz.prog GH 105 cFin := by
  refine keepsW (T := Tfi) (A := ann105) hMix keepTfi hGH (calls_of (by kernel_rfl)) (callsW_of (by kernel_rfl)) fun args ⟨b, hs, bs, n⟩ w0 hrd hpre hg => ?_
  obtain ⟨rfl, hst⟩ := hrd
  dsimp only at hst hpre
  refine ⟨[.x (.v 0)], [], [], 2, env0 [PSt b] w0, fun b => b, 0, rfl, rfl, fun X hX => mem_none hX rfl, fun X hP hS hw hX hR => ?_⟩
  subst hw; try dsimp only at hR
  rw [vc105 X]
  have hbl := hst.low
  rw [zeros64]
  refine a_aggB (by simp) ?_
  intro b0 hb0
  refine a_aggB (by simp) ?_
  intro b1 hb1
  refine call_W hX hS (T := Tfi) (f := 137) rfl (b, hs, bs, n) (fun w hw => ⟨⟨rfl, hst.stp hw.stp List.not_mem_nil⟩, trivial⟩) fun v w w' hw k' s1 s2 hv => ?_
  obtain rfl := hv
  have st0 := hst.stp s2 List.not_mem_nil
  refine a_if (fun h => by cases h) fun _ => ?_
  refine a_nilCheck ?_
  refine a_ldPA (cs := stC hs bs n) k' (hP ▸ aggSt) (by rw [hP, szSt, stC_len hst.l8 hst.l128]) st0.row List.not_mem_nil (fun j c hj => by rw [Nat.zero_add, List.getElem?_toArray]; exact hj) ?_
  refine a_alloc hX.n hP zeSt fun r w6 w7 hw6 k7 s7 su7 hr7 row7 sz7 => ?_
  have hrt : r ∉ tabs := hg.off (by have := hw6.sz0; omega)
  have mr : X.mine r := hX.n r (by have := hw6.sz0; omega)
  have l0 : b0 < r := by rw [← hr7]; exact hw6.low (by simp [kb105_0])
  have l1 : b1 < r := by rw [← hr7]; exact hw6.low (by simp [kb105_0])
  have hkb : ∀ x y, r ∉ (kb105_0 b0 b1 x y).map (·.b) := fun x y => by simp [kb105_0]; omega
  refine a_storeAt (x := .agg (stC hs bs n).toArray) (vs := stC hs bs n) hX.n hP szSt rfl rfl rfl (stC_len hst.l8 hst.l128) (one_stC _ _ _) row7 List.not_mem_nil mr (hkb _ _) (by rw [zSt_size]; omega) fun _ w8 w9 hw8 k9 s9 su9 row9 sz9 => ?_
  have st9 : StAt w9 r hs bs n := ⟨by
    rw [row9]
    have hz : zSt.cells.toList.drop (0 + (stC hs bs n).length) = [] := List.drop_of_length_le (by rw [stC_len hst.l8 hst.l128, zSt_len]; omega)
    unfold splice
    rw [hz, List.take_zero, List.append_nil, List.nil_append], hst.l8, hst.l128, hst.hlt, hst.blt⟩
  refine a_fadP hP fdSz (a_ldP k9 (hP ▸ aggI) st9.row List.not_mem_nil (by rw [List.getElem?_toArray]; exact (stC_n st9.l8 st9.l128).1) ?_)
  rw [ask_remN (by decide)]
  have hk128 : n % 128 < 128 := Nat.mod_lt _ (by decide)
  refine a_fadP hP fdBl (a_slcPL hP arBl szU8 hk128 ?_)
  refine a_clear hX.n hP tyB.sl zeB rfl rfl rfl (by omega) st9.row List.not_mem_nil mr (hkb _ _) (by simp [stC_len st9.l8 st9.l128]; omega) fun _ w10 w14 hw10 k14 s14 su14 row14 sz14 => ?_
  rw [← mapB_rep] at row14
  have st14 := st9.bytes (k := n % 128) (by omega) row14 (by simp; omega) (fun y hy => by rw [List.eq_of_mem_replicate hy]; decide)
  refine a_fadP hP fdBl (a_iadP hP arBl szU8 hk128 ?_)
  refine a_storeAt (x := B 128) (vs := [B 128]) hX.n hP szU8 rfl rfl rfl rfl rfl st14.row List.not_mem_nil mr (hkb _ _) (by simp [stC_len st14.l8 st14.l128]; omega) fun _ w15 w17 hw15 k17 s17 su17 row17 sz17 => ?_
  have st17 := st14.bytes (k := n % 128) (ys := [128]) (by omega) row17 (by simp; omega) (fun y hy => by rw [List.mem_singleton.1 hy]; decide)
  rw [endB_eq hst.l128 hk128] at st17
  rw [ask_geqN]
  refine a_ifD (fun hge0 => ?_) fun hlt0 => ?_
  · refine call_M hX.n hS (T := Tfi) (f := 138) rfl (r, hs, endB bs (n % 128), n) (fun w hw => ⟨⟨rfl, st17.stp hw.stp List.not_mem_nil⟩, hrt⟩) [r] (fun _ h => List.mem_singleton.2 h) (fun g hg => by rw [List.mem_singleton.1 hg]; exact ⟨mr, hkb _ _⟩) fun _ w18 w19 hw18 k19 s19 su19 hp19 => ?_
    obtain ⟨_, st19⟩ := hp19
    dsimp only at st19
    refine a_fadP hP fdBl (a_slcP0 hP arBl szU8 (by decide) ?_)
    refine a_clear hX.n hP tyB.sl zeB rfl rfl rfl (by decide) st19.row List.not_mem_nil mr (hkb _ _) (by simp [stC_len st19.l8 st19.l128]) fun _ w20 w22 hw20 kA s22 su22 row22 sz22 => ?_
    rw [← mapB_rep] at row22
    have stA := st19.bytes (k := 0) (by omega) row22 (by simp) (fun y hy => by rw [List.eq_of_mem_replicate hy]; decide)
    have ez : bput (endB bs (n % 128)) 0 (List.replicate 128 0) = List.replicate 128 0 := by
      unfold bput
      rw [List.drop_of_length_le (by rw [st17.l128]; simp)]
      simp
    rw [ez] at stA
    generalize hAe : cpr hs (endB bs (n % 128)) = hA at stA
    generalize hBe : List.replicate 128 0 = bA at stA
    refine a_fadP hP fdSz (a_ldP kA (hP ▸ aggI) stA.row List.not_mem_nil (by rw [List.getElem?_toArray]; exact (stC_n stA.l8 stA.l128).1) ?_)
    rw [hP, ask_j2u (by simp only [B64]; omega), ← hP]
    refine call_PE hS (T := Tfi) (f := 86) rfl (n, 8) ⟨by simp only [B64]; omega, by simp only [B64]; omega⟩ ?_
    rw [ask_ext0, ask_ext1]
    dsimp only
    refine ⟨fun a w => ∃ i, a = [J i] ∧ i ≤ 8 ∧ StAt w r hA (wrB bA (n * 8 / B64) (n * 8 % B64) i) n ∧ b0 < w.heap.size ∧ b1 < w.heap.size ∧ Kn X w, fun a _ => match a with | [i] => 8 - intNat i | _ => 0,
      fun w hw => ⟨0, rfl, Nat.zero_le _, stA.stp hw.stp List.not_mem_nil, hw.low (by simp [kb105_0]), hw.low (by simp [kb105_0]), hw.kn⟩, ?_⟩
    rintro _ wB ⟨i, he, hi, stB, lo0, lo1, kB⟩
    simp only [List.cons.injEq, and_true] at he
    subst he
    rw [ask_lssN]
    refine a_ifD (fun hlt => ?_) fun hge => ?_
    · rw [ask_subN (by omega) (by omega), ask_mulN (by omega), ask_ushr (by omega), hP, ask_u2b, ← hP]
      refine a_fadP hP fdBl (a_iadP hP arBl szU8 (by omega) ?_)
      refine a_storeAt (x := B (n * 8 / B64 / 2 ^ (8 * i) % 256)) (vs := [B (n * 8 / B64 / 2 ^ (8 * i) % 256)]) hX.n hP szU8 rfl rfl rfl rfl rfl stB.row List.not_mem_nil mr (hkb _ _) (by simp [stC_len stB.l8 stB.l128]; omega) fun _ w3 w4 h3 k4 s4 su4 row4 sz4 => ?_
      have st4 := stB.bytes (k := 119 - i) (ys := [n * 8 / B64 / 2 ^ (8 * i) % 256]) (by omega) row4 (by simp; omega) (fun y hy => by rw [List.mem_singleton.1 hy]; exact Nat.mod_lt _ (by decide))
      rw [ask_subN (by omega) (by omega), ask_mulN (by omega), ask_ushr (by omega), hP, ask_u2b, ← hP]
      refine a_fadP hP fdBl (a_iadP hP arBl szU8 (by omega) ?_)
      refine a_storeAt (x := B (n * 8 % B64 / 2 ^ (8 * i) % 256)) (vs := [B (n * 8 % B64 / 2 ^ (8 * i) % 256)]) hX.n hP szU8 rfl rfl rfl rfl rfl st4.row List.not_mem_nil mr (hkb _ _) (by simp [stC_len st4.l8 st4.l128]; omega) fun _ w5 w6 h5 k6 s6 su6 row6 sz6 => ?_
      have st6 := st4.bytes (k := 127 - i) (ys := [n * 8 % B64 / 2 ^ (8 * i) % 256]) (by omega) row6 (by simp) (fun y hy => by rw [List.mem_singleton.1 hy]; exact Nat.mod_lt _ (by decide))
      rw [ask_succ (by omega)]
      intro w7 hw7
      have := h3.size; have := h5.size; have := hw7.size
      exact ⟨⟨i + 1, rfl, by omega, st6.stp hw7.stp List.not_mem_nil, by omega, by omega, hw7.kn⟩, by simp [intNat]; omega⟩
    obtain rfl : i = 8 := by omega
    rw [wrB8 stA.l128] at stB
    refine call_M hX.n hS (T := Tfi) (f := 138) rfl (r, hA, lenB bA n, n) (fun w hw => ⟨⟨rfl, stB.stp hw.stp List.not_mem_nil⟩, hrt⟩) [r] (fun _ h => List.mem_singleton.2 h) (fun g hg => by rw [List.mem_singleton.1 hg]; exact ⟨mr, hkb _ _⟩) fun _ wC wD hwC kD sD suD hpD => ?_
    obtain ⟨_, stD⟩ := hpD
    dsimp only at stD
    refine a_fadP hP fdW ?_
    generalize hh : cpr hA (lenB bA n) = hD at stD
    have foldU : Value.agg (hD.map U).toArray = UA hD := rfl
    refine a_ldPA (cs := hD.map U) kD (hP ▸ aggW8) (by rw [hP, szW8]; simp [stD.l8]) stD.row List.not_mem_nil (fun j c hj => ?_) ?_
    · have hj8 : j < 8 := by have := (getU hj).1; rw [stD.l8] at this; exact this
      simp only [List.getElem?_toArray, Nat.zero_add]
      rw [stC_h stD.l8 hj8, (getU hj).2]
    rw [foldU]
    have hdl := dig_len stD.l8
    refine ⟨fun a w => ∃ i x, a = [J i, x, BA ((dig hD).take (8 * i) ++ List.replicate (64 - 8 * i) 0)] ∧ i ≤ 8 ∧ Kn X w, fun a _ => match a with | [i, _, _] => 8 - intNat i | _ => 0,
      fun w hw => ⟨0, _, rfl, Nat.zero_le _, hw.kn⟩, ?_⟩
    rintro _ _ _ wE ⟨i, x, he, hi, kE⟩
    simp only [List.cons.injEq, and_true] at he
    obtain ⟨rfl, rfl, rfl⟩ := he
    rw [ask_lssN]
    refine a_ifD (fun hlt => ?_) fun hge => ?_
    · refine a_idx hP arW szU64 aggU64 hlt (cs := hD.map U) (v := U (hD.getD i 0)) (by rw [List.getElem?_map, List.getElem?_eq_getElem (by rw [stD.l8]; exact hlt), List.getD_eq_getElem?_getD, List.getElem?_eq_getElem (by rw [stD.l8]; exact hlt)]; rfl) ?_
      refine ⟨fun a w => ∃ j, a = [J j, BA ((dig hD).take (8 * i + j) ++ List.replicate (64 - (8 * i + j)) 0)] ∧ j ≤ 8 ∧ Kn X w, fun a _ => match a with | [i, _] => 8 - intNat i | _ => 0,
        fun w hw => ⟨0, rfl, Nat.zero_le _, hw.kn⟩, ?_⟩
      rintro _ _ wF ⟨j, he, hj, kF⟩
      simp only [List.cons.injEq, and_true] at he
      obtain ⟨rfl, rfl⟩ := he
      rw [ask_lssN]
      refine a_ifD (fun hlt2 => ?_) fun hge2 => ?_
      · rw [ask_mulN (by omega), ask_addN (by omega), ask_mulN (by omega), ask_subN (by omega) (by omega), ask_ushr (by omega), hP, ask_u2b, ← hP, ask_ixN (by omega), ← dig_at (by rw [stD.l8]; exact hlt) hlt2]
        refine a_updBA (k := 8 * i + j) (by rw [intNatJ]; omega) (by simp [hdl]; omega) ?_
        rw [ask_succ (by omega)]
        intro w2 hw2
        refine ⟨⟨j + 1, ?_, by omega, hw2.kn⟩, by simp [intNat]; omega⟩
        rw [show 64 - (8 * i + j) = 64 - (8 * i + (j + 1)) + 1 by omega, out_set (by omega)]
        rfl
      · obtain rfl : j = 8 := by omega
        rw [ask_succ (by omega)]
        intro w2 hw2
        exact ⟨⟨i + 1, _, rfl, by omega, hw2.kn⟩, by simp [intNat]; omega⟩
    obtain rfl : i = 8 := by omega
    rw [List.take_of_length_le (by omega), show 64 - 8 * 8 = 0 from rfl, List.replicate_zero, List.append_nil]
    refine a_aggB hdl ?_
    refine hR _ _ _ _ fun w hw => ?_
    unfold fin
    rw [if_pos hge0, hAe, hBe, hh]
  · generalize hBe : endB bs (n % 128) = bA at st17
    have stA := st17
    have kA := k17
    generalize hAe : hs = hA at stA
    refine a_fadP hP fdSz (a_ldP kA (hP ▸ aggI) stA.row List.not_mem_nil (by rw [List.getElem?_toArray]; exact (stC_n stA.l8 stA.l128).1) ?_)
    rw [hP, ask_j2u (by simp only [B64]; omega), ← hP]
    refine call_PE hS (T := Tfi) (f := 86) rfl (n, 8) ⟨by simp only [B64]; omega, by simp only [B64]; omega⟩ ?_
    rw [ask_ext0, ask_ext1]
    dsimp only
    refine ⟨fun a w => ∃ i, a = [J i] ∧ i ≤ 8 ∧ StAt w r hA (wrB bA (n * 8 / B64) (n * 8 % B64) i) n ∧ b0 < w.heap.size ∧ b1 < w.heap.size ∧ Kn X w, fun a _ => match a with | [i] => 8 - intNat i | _ => 0,
      fun w hw => ⟨0, rfl, Nat.zero_le _, stA.stp hw.stp List.not_mem_nil, hw.low (by simp [kb105_0]), hw.low (by simp [kb105_0]), hw.kn⟩, ?_⟩
    rintro _ wB ⟨i, he, hi, stB, lo0, lo1, kB⟩
    simp only [List.cons.injEq, and_true] at he
    subst he
    rw [ask_lssN]
    refine a_ifD (fun hlt => ?_) fun hge => ?_
    · rw [ask_subN (by omega) (by omega), ask_mulN (by omega), ask_ushr (by omega), hP, ask_u2b, ← hP]
      refine a_fadP hP fdBl (a_iadP hP arBl szU8 (by omega) ?_)
      refine a_storeAt (x := B (n * 8 / B64 / 2 ^ (8 * i) % 256)) (vs := [B (n * 8 / B64 / 2 ^ (8 * i) % 256)]) hX.n hP szU8 rfl rfl rfl rfl rfl stB.row List.not_mem_nil mr (hkb _ _) (by simp [stC_len stB.l8 stB.l128]; omega) fun _ w3 w4 h3 k4 s4 su4 row4 sz4 => ?_
      have st4 := stB.bytes (k := 119 - i) (ys := [n * 8 / B64 / 2 ^ (8 * i) % 256]) (by omega) row4 (by simp; omega) (fun y hy => by rw [List.mem_singleton.1 hy]; exact Nat.mod_lt _ (by decide))
      rw [ask_subN (by omega) (by omega), ask_mulN (by omega), ask_ushr (by omega), hP, ask_u2b, ← hP]
      refine a_fadP hP fdBl (a_iadP hP arBl szU8 (by omega) ?_)
      refine a_storeAt (x := B (n * 8 % B64 / 2 ^ (8 * i) % 256)) (vs := [B (n * 8 % B64 / 2 ^ (8 * i) % 256)]) hX.n hP szU8 rfl rfl rfl rfl rfl st4.row List.not_mem_nil mr (hkb _ _) (by simp [stC_len st4.l8 st4.l128]; omega) fun _ w5 w6 h5 k6 s6 su6 row6 sz6 => ?_
      have st6 := st4.bytes (k := 127 - i) (ys := [n * 8 % B64 / 2 ^ (8 * i) % 256]) (by omega) row6 (by simp) (fun y hy => by rw [List.mem_singleton.1 hy]; exact Nat.mod_lt _ (by decide))
      rw [ask_succ (by omega)]
      intro w7 hw7
      have := h3.size; have := h5.size; have := hw7.size
      exact ⟨⟨i + 1, rfl, by omega, st6.stp hw7.stp List.not_mem_nil, by omega, by omega, hw7.kn⟩, by simp [intNat]; omega⟩
    obtain rfl : i = 8 := by omega
    rw [wrB8 stA.l128] at stB
    refine call_M hX.n hS (T := Tfi) (f := 138) rfl (r, hA, lenB bA n, n) (fun w hw => ⟨⟨rfl, stB.stp hw.stp List.not_mem_nil⟩, hrt⟩) [r] (fun _ h => List.mem_singleton.2 h) (fun g hg => by rw [List.mem_singleton.1 hg]; exact ⟨mr, hkb _ _⟩) fun _ wC wD hwC kD sD suD hpD => ?_
    obtain ⟨_, stD⟩ := hpD
    dsimp only at stD
    refine a_fadP hP fdW ?_
    generalize hh : cpr hA (lenB bA n) = hD at stD
    have foldU : Value.agg (hD.map U).toArray = UA hD := rfl
    refine a_ldPA (cs := hD.map U) kD (hP ▸ aggW8) (by rw [hP, szW8]; simp [stD.l8]) stD.row List.not_mem_nil (fun j c hj => ?_) ?_
    · have hj8 : j < 8 := by have := (getU hj).1; rw [stD.l8] at this; exact this
      simp only [List.getElem?_toArray, Nat.zero_add]
      rw [stC_h stD.l8 hj8, (getU hj).2]
    rw [foldU]
    have hdl := dig_len stD.l8
    refine ⟨fun a w => ∃ i x, a = [J i, x, BA ((dig hD).take (8 * i) ++ List.replicate (64 - 8 * i) 0)] ∧ i ≤ 8 ∧ Kn X w, fun a _ => match a with | [i, _, _] => 8 - intNat i | _ => 0,
      fun w hw => ⟨0, _, rfl, Nat.zero_le _, hw.kn⟩, ?_⟩
    rintro _ _ _ wE ⟨i, x, he, hi, kE⟩
    simp only [List.cons.injEq, and_true] at he
    obtain ⟨rfl, rfl, rfl⟩ := he
    rw [ask_lssN]
    refine a_ifD (fun hlt => ?_) fun hge => ?_
    · refine a_idx hP arW szU64 aggU64 hlt (cs := hD.map U) (v := U (hD.getD i 0)) (by rw [List.getElem?_map, List.getElem?_eq_getElem (by rw [stD.l8]; exact hlt), List.getD_eq_getElem?_getD, List.getElem?_eq_getElem (by rw [stD.l8]; exact hlt)]; rfl) ?_
      refine ⟨fun a w => ∃ j, a = [J j, BA ((dig hD).take (8 * i + j) ++ List.replicate (64 - (8 * i + j)) 0)] ∧ j ≤ 8 ∧ Kn X w, fun a _ => match a with | [i, _] => 8 - intNat i | _ => 0,
        fun w hw => ⟨0, rfl, Nat.zero_le _, hw.kn⟩, ?_⟩
      rintro _ _ wF ⟨j, he, hj, kF⟩
      simp only [List.cons.injEq, and_true] at he
      obtain ⟨rfl, rfl⟩ := he
      rw [ask_lssN]
      refine a_ifD (fun hlt2 => ?_) fun hge2 => ?_
      · rw [ask_mulN (by omega), ask_addN (by omega), ask_mulN (by omega), ask_subN (by omega) (by omega), ask_ushr (by omega), hP, ask_u2b, ← hP, ask_ixN (by omega), ← dig_at (by rw [stD.l8]; exact hlt) hlt2]
        refine a_updBA (k := 8 * i + j) (by rw [intNatJ]; omega) (by simp [hdl]; omega) ?_
        rw [ask_succ (by omega)]
        intro w2 hw2
        refine ⟨⟨j + 1, ?_, by omega, hw2.kn⟩, by simp [intNat]; omega⟩
        rw [show 64 - (8 * i + j) = 64 - (8 * i + (j + 1)) + 1 by omega, out_set (by omega)]
        rfl
      · obtain rfl : j = 8 := by omega
        rw [ask_succ (by omega)]
        intro w2 hw2
        exact ⟨⟨i + 1, _, rfl, by omega, hw2.kn⟩, by simp [intNat]; omega⟩
    obtain rfl : i = 8 := by omega
    rw [List.take_of_length_le (by omega), show 64 - 8 * 8 = 0 from rfl, List.replicate_zero, List.append_nil]
    refine a_aggB hdl ?_
    refine hR _ _ _ _ fun w hw => ?_
    unfold fin
    rw [if_neg hlt0, hAe, hBe, hh]
#print axioms keepsFin
end Go.Vc
