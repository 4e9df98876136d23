/-
  SHA-512: the hash of what was written, on the program's side.
-/
import Derived.Test.YtapkkciimlffnaaGreatDoorDSha4
import Derived.Test.YtapkkciimlffnaaGreatDoorDProd
namespace Go.Vc
open Go Go.Proofs Go.RowKit

/-! ### the end of a hash -/
/-- A word's bytes, the highest first. -/
def be8 (x : Nat) : List Nat := (List.range 8).map fun i => x / 2 ^ (56 - 8 * i) % 256
theorem be8_len (x : Nat) : (be8 x).length = 8 := by simp [be8]
theorem be8_lt (x : Nat) : ∀ y ∈ be8 x, y < 256 := fun y hy => by
  simp only [be8, List.mem_map] at hy
  obtain ⟨_, _, rfl⟩ := hy
  exact Nat.mod_lt _ (by decide)
def dig (hs : List Nat) : List Nat := hs.flatMap be8
theorem dig_len' (hs : List Nat) : (dig hs).length = 8 * hs.length := by
  induction hs with
  | nil => rfl
  | cons a r ih => rw [dig, List.flatMap_cons, List.length_append, be8_len, ← dig, ih, List.length_cons]; omega
theorem dig_len {hs : List Nat} (h : hs.length = 8) : (dig hs).length = 64 := by rw [dig_len', h]
theorem dig_lt {hs : List Nat} : ∀ y ∈ dig hs, y < 256 := fun y hy => by
  simp only [dig, List.mem_flatMap] at hy
  obtain ⟨a, _, h⟩ := hy
  exact be8_lt a y h
theorem dig_at {hs : List Nat} {i j : Nat} (hi : i < hs.length) (hj : j < 8) : (dig hs).getD (8 * i + j) 0 = hs.getD i 0 / 2 ^ (56 - 8 * j) % 256 := by
  have h1 : hs[i]? = some hs[i] := List.getElem?_eq_getElem hi
  have : ∀ (l : List Nat) (i x : Nat), l[i]? = some x → (l.flatMap be8)[8 * i + j]? = some (x / 2 ^ (56 - 8 * j) % 256) := by
    intro l
    induction l with
    | nil => intro i x h; simp at h
    | cons a r ih =>
      intro i x h
      rw [List.flatMap_cons]
      cases i with
      | zero =>
        simp at h; subst h
        rw [List.getElem?_append_left (by rw [be8_len]; omega)]
        simp [be8, hj]
      | succ i =>
        rw [List.getElem?_append_right (by rw [be8_len]; omega), be8_len, show 8 * (i + 1) + j - 8 = 8 * i + j by omega]
        exact ih i x (by simpa using h)
  rw [List.getD_eq_getElem?_getD, dig, this hs i _ h1, List.getD_eq_getElem?_getD, h1]
  rfl
/-- The bytes behind a message in its last block but for its length. -/
def endB (bs : List Nat) (k : Nat) : List Nat := bs.take k ++ 128 :: List.replicate (127 - k) 0
def lenB (bs : List Nat) (n : Nat) : List Nat := bs.take 112 ++ be8 (n * 8 / B64) ++ be8 (n * 8 % B64)
def fin (hs bs : List Nat) (n : Nat) : List Nat :=
  if 112 ≤ n % 128 then cpr (cpr hs (endB bs (n % 128))) (lenB (List.replicate 128 0) n) else cpr hs (lenB (endB bs (n % 128)) n)
theorem endB_eq {bs : List Nat} {k : Nat} (hl : bs.length = 128) (hk : k < 128) : bput (bput bs k (List.replicate (128 - k) 0)) k [128] = endB bs k := by
  have e : bput bs k (List.replicate (128 - k) 0) = bs.take k ++ List.replicate (128 - k) 0 := by
    unfold bput
    rw [List.drop_of_length_le (by simp [hl]; omega), List.append_nil]
  rw [e]
  unfold bput endB
  have hkl : (bs.take k).length = k := by simp [hl]; omega
  rw [List.take_append_of_le_length (by omega), List.take_of_length_le (by omega), List.drop_append, List.drop_of_length_le (by simp; omega), hkl]
  simp
  omega
/-- The length's bytes, as they are written. -/
def wrB (bs : List Nat) (hi lo : Nat) : Nat → List Nat
  | 0 => bs
  | i + 1 => bput (bput (wrB bs hi lo i) (119 - i) [hi / 2 ^ (8 * i) % 256]) (127 - i) [lo / 2 ^ (8 * i) % 256]
theorem bput_set {bs : List Nat} {k x : Nat} (h : k < bs.length) : bput bs k [x] = bs.set k x := by
  unfold bput
  rw [List.set_eq_take_append_cons_drop, if_pos h]
  simp
theorem wrB_len {bs : List Nat} {hi lo : Nat} (h : bs.length = 128) : ∀ i, (wrB bs hi lo i).length = 128
  | 0 => h
  | i + 1 => by
    have := wrB_len h (hi := hi) (lo := lo) i
    have h1 := bput_len (bs := wrB bs hi lo i) (ys := [hi / 2 ^ (8 * i) % 256]) (k := 119 - i) (by simp; omega)
    rw [wrB, bput_len (by simp; omega), h1]; exact this
theorem list16 (t : List Nat) (h : t.length = 16) : ∃ a b c d e f g i j k l m n o p q, t = [a, b, c, d, e, f, g, i, j, k, l, m, n, o, p, q] := by
  match t, h with
  | [a, b, c, d, e, f, g, i, j, k, l, m, n, o, p, q], _ => exact ⟨_, _, _, _, _, _, _, _, _, _, _, _, _, _, _, _, rfl⟩
theorem wrB_set {bs : List Nat} {hi lo : Nat} (h : bs.length = 128) (i : Nat) : wrB bs hi lo (i + 1) = ((wrB bs hi lo i).set (119 - i) (hi / 2 ^ (8 * i) % 256)).set (127 - i) (lo / 2 ^ (8 * i) % 256) := by
  have := wrB_len h (hi := hi) (lo := lo) i
  rw [wrB, bput_set (bs := wrB bs hi lo i) (by omega), bput_set (by rw [List.length_set]; omega)]
theorem set_hi {a t : List Nat} {k x : Nat} (ha : a.length = 112) (hk : 112 ≤ k) : (a ++ t).set k x = a ++ t.set (k - 112) x := by
  rw [List.set_append_right _ _ (by omega), ha]
theorem wrB8 {bs : List Nat} {hi lo : Nat} (h : bs.length = 128) : wrB bs hi lo 8 = bs.take 112 ++ be8 hi ++ be8 lo := by
  have e : bs = bs.take 112 ++ bs.drop 112 := (List.take_append_drop 112 bs).symm
  have ha : (bs.take 112).length = 112 := by simp [h]
  obtain ⟨a, b, c, d, e', f, g, i, j, k, l, m, n, o, p, q, ht⟩ := list16 (bs.drop 112) (by simp [h])
  simp only [wrB_set h]
  rw [show wrB bs hi lo 0 = bs.take 112 ++ bs.drop 112 from e, ht]
  generalize bs.take 112 = A at ha
  simp only [set_hi ha, (by omega : 112 ≤ 119 - 0), (by omega : 112 ≤ 127 - 0), (by omega : 112 ≤ 119 - 1), (by omega : 112 ≤ 127 - 1), (by omega : 112 ≤ 119 - 2), (by omega : 112 ≤ 127 - 2), (by omega : 112 ≤ 119 - 3), (by omega : 112 ≤ 127 - 3), (by omega : 112 ≤ 119 - 4), (by omega : 112 ≤ 127 - 4), (by omega : 112 ≤ 119 - 5), (by omega : 112 ≤ 127 - 5), (by omega : 112 ≤ 119 - 6), (by omega : 112 ≤ 127 - 6), (by omega : 112 ≤ 119 - 7), (by omega : 112 ≤ 127 - 7)]
  rw [List.append_assoc]
  rfl
theorem out_set {l : List Nat} {k m : Nat} (h : k < l.length) : (l.take k ++ List.replicate (m + 1) 0).set k (l.getD k 0) = l.take (k + 1) ++ List.replicate m 0 := by
  have hl : (l.take k).length = k := by rw [List.length_take]; omega
  rw [List.set_append_right _ _ (by omega), hl, Nat.sub_self, List.replicate_succ, List.set_cons_zero, List.take_succ_eq_append_getElem h, List.getD_eq_getElem?_getD, List.getElem?_eq_getElem h, List.append_assoc]
  rfl
theorem ask_j2u {n : Nat} (h : n < B64) {K : Value → Prop} : Ask (rConv Tryz.prog 3 23 (J n)) K = K (U n) :=
  ask_eq (runs_iff fun w => by
    have h1 : (convert 3 23 (J n)).run Tryz.prog w = .ok (.int .u64 (IntKind.u64.wrap (n : Int))) w := by kernel_rfl
    rw [h1, wrap_u64, Nat.mod_eq_of_lt h]; rfl)

/-! ### State.Sum -/
def zSt : Value := .agg (List.replicate 8 (U 0) ++ List.replicate 128 (B 0) ++ [J 0, .bool false]).toArray
theorem zSt_len : zSt.cells.toList.length = 138 := by kernel_rfl
theorem zSt_size : zSt.cells.size = 138 := by kernel_rfl
theorem zeB : (Tryz.prog.info? 5).bind (·.zero) = some (B 0) := by kernel_rfl
theorem one_stC (hs bs : List Nat) (n : Nat) : (stC hs bs n).all (·.oneCell') = true := by simp [stC, U, B, Value.oneCell']
theorem mapB_rep (n x : Nat) : (List.replicate n x).map B = List.replicate n (B x) := by simp
theorem zeros64 : Value.agg #[(.int .u8 0), (.int .u8 0), (.int .u8 0), (.int .u8 0), (.int .u8 0), (.int .u8 0), (.int .u8 0), (.int .u8 0), (.int .u8 0), (.int .u8 0), (.int .u8 0), (.int .u8 0), (.int .u8 0), (.int .u8 0), (.int .u8 0), (.int .u8 0), (.int .u8 0), (.int .u8 0), (.int .u8 0), (.int .u8 0), (.int .u8 0), (.int .u8 0), (.int .u8 0), (.int .u8 0), (.int .u8 0), (.int .u8 0), (.int .u8 0), (.int .u8 0), (.int .u8 0), (.int .u8 0), (.int .u8 0), (.int .u8 0), (.int .u8 0), (.int .u8 0), (.int .u8 0), (.int .u8 0), (.int .u8 0), (.int .u8 0), (.int .u8 0), (.int .u8 0), (.int .u8 0), (.int .u8 0), (.int .u8 0), (.int .u8 0), (.int .u8 0), (.int .u8 0), (.int .u8 0), (.int .u8 0), (.int .u8 0), (.int .u8 0), (.int .u8 0), (.int .u8 0), (.int .u8 0), (.int .u8 0), (.int .u8 0), (.int .u8 0), (.int .u8 0), (.int .u8 0), (.int .u8 0), (.int .u8 0), (.int .u8 0), (.int .u8 0), (.int .u8 0), (.int .u8 0)] = BA (List.replicate 64 0) := by kernel_rfl
end Go.Vc
