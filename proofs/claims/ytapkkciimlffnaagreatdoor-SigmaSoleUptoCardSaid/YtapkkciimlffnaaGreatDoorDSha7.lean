import Derived.Test.YtapkkciimlffnaaGreatDoorDSha5
/-
  SHA-512 of messages; hash.Sum.
-/
namespace Go.Vc
open Go Go.Proofs Go.RowKit

/-! ### the hash of a message -/
def zl (n : Nat) : Nat := (239 - n % 128) % 128
def pad (p : List Nat) : List Nat := p ++ (128 :: List.replicate (zl p.length) 0) ++ be8 0 ++ be8 (p.length * 8 % B64)
def sha (p : List Nat) : List Nat := dig (blk (pad p) ((pad p).length / 128))
theorem pad_len (p : List Nat) : (pad p).length = p.length + 1 + zl p.length + 16 := by simp [pad, be8_len]; omega
theorem sha_len (p : List Nat) : (sha p).length = 64 := dig_len (blk_len _ _)
theorem sha_lt (p : List Nat) : ∀ y ∈ sha p, y < 256 := dig_lt
theorem endB_take {bs : List Nat} {k : Nat} (hl : bs.length = 128) (hk : k < 112) : (endB bs k).take 112 = bs.take k ++ 128 :: List.replicate (111 - k) 0 := by
  have hkl : (bs.take k).length = k := by rw [List.length_take, hl]; omega
  unfold endB
  rw [List.take_append, List.take_of_length_le (by omega), hkl, show 112 - k = (111 - k) + 1 by omega, List.take_succ_cons, List.take_replicate, show min (111 - k) (127 - k) = 111 - k by omega]
theorem fin_law {p hs bs : List Nat} (h : Hl p hs bs) (hl : bs.length = 128) (hn : p.length ≤ 2 ^ 60) : dig (fin hs bs p.length) = sha p := by
  have e0 : p.length * 8 / B64 = 0 := by simp only [B64]; omega
  have hk : p.length % 128 < 128 := Nat.mod_lt _ (by decide)
  have hpl := pad_len p
  have hb := h.bs
  have hkl : (bs.take (p.length % 128)).length = p.length % 128 := by rw [List.length_take, hl]; omega
  unfold sha fin
  have bA : blk (pad p) (p.length / 128) = hs := by
    rw [h.hs, pad, List.append_assoc, List.append_assoc, blk_app _ _ _ (by omega)]
  have dA : (pad p).drop (128 * (p.length / 128)) = bs.take (p.length % 128) ++ ((128 :: List.replicate (zl p.length) 0) ++ be8 0 ++ be8 (p.length * 8 % B64)) := by
    rw [pad, List.append_assoc, List.append_assoc, List.drop_append_of_le_length (by omega), ← hb, List.append_assoc]
  by_cases h112 : 112 ≤ p.length % 128
  · have hz : zl p.length = 239 - p.length % 128 := by unfold zl; omega
    rw [if_pos h112, show (pad p).length / 128 = p.length / 128 + 1 + 1 by rw [hpl, hz]; omega, blk, blk, bA, dA]
    have e1 : (bs.take (p.length % 128) ++ ((128 :: List.replicate (zl p.length) 0) ++ be8 0 ++ be8 (p.length * 8 % B64))).take 128 = endB bs (p.length % 128) := by
      unfold endB
      rw [List.take_append, List.take_of_length_le (by omega), hkl, hz]
      congr 1
      rw [List.append_assoc, List.take_append_of_le_length (by simp; omega), show 128 - p.length % 128 = (127 - p.length % 128) + 1 by omega, List.take_succ_cons, List.take_replicate, show min (127 - p.length % 128) (239 - p.length % 128) = 127 - p.length % 128 by omega]
    have e2 : ((pad p).drop (128 * (p.length / 128 + 1))).take 128 = lenB (List.replicate 128 0) p.length := by
      rw [show 128 * (p.length / 128 + 1) = 128 * (p.length / 128) + 128 by omega, ← List.drop_drop, dA, List.drop_append, List.drop_of_length_le (by omega), List.nil_append, hkl, hz]
      unfold lenB
      rw [e0, List.take_replicate, List.append_assoc, List.drop_append_of_le_length (by simp; omega), show 128 - p.length % 128 = (127 - p.length % 128) + 1 by omega, List.drop_succ_cons, List.drop_replicate, show 239 - p.length % 128 - (127 - p.length % 128) = 112 by omega, List.append_assoc, List.take_of_length_le (by simp [be8_len])]
      rfl
    rw [e1, e2]
  · have hz : zl p.length = 111 - p.length % 128 := by unfold zl; omega
    rw [if_neg h112, show (pad p).length / 128 = p.length / 128 + 1 by rw [hpl, hz]; omega, blk, bA, dA]
    have e1 : (bs.take (p.length % 128) ++ ((128 :: List.replicate (zl p.length) 0) ++ be8 0 ++ be8 (p.length * 8 % B64))).take 128 = lenB (endB bs (p.length % 128)) p.length := by
      rw [List.take_of_length_le (by rw [List.length_append, hkl, hz]; simp [be8_len]; omega)]
      unfold lenB
      rw [endB_take hl (by omega), e0, hz, List.append_assoc, List.append_assoc, List.append_assoc]
    rw [e1]

/-! ### hash.Sum -/
def cBss : Cod (List (List Nat)) := cLL cBs
/-- Parts that lie there. -/
structure Bss (w : World) (v : Value) (vs : List Value) (l : List (List Nat)) : Prop where
  at_ : SlAt w v l.length vs
  len : vs.length = l.length
  all : ∀ (i : Nat) (x : Value) (a : List Nat), vs[i]? = some x → l[i]? = some a → Bs w x a
theorem bss_rd {w : World} {v : Value} {l : List (List Nat)} : cBss.rd w v l ↔ ∃ vs, Bss w v vs l :=
  ⟨fun ⟨vs, h1, h2, h3⟩ => ⟨vs, h1, h2, fun i x a h h' => bs_rd.1 (h3 i x a h h')⟩, fun ⟨vs, h⟩ => ⟨vs, h.at_, h.len, fun i x a h1 h2 => bs_rd.2 (h.all i x a h1 h2)⟩⟩
theorem Bss.stp0 {u w : World} {v : Value} {vs : List Value} {l : List (List Nat)} (h : Bss u v vs l) (hs : Stp [] u w) : Bss w v vs l := ⟨h.at_.stp0 hs, h.len, fun i x a h1 h2 => (h.all i x a h1 h2).stp0 hs⟩
theorem Bs.low {w : World} {v : Value} {l : List Nat} (h : Bs w v l) (hne : l ≠ []) : ∀ b, v.ownBlock = some b → b < w.heap.size :=
  slAt_low h.1 (by cases l with | nil => exact absurd rfl hne | cons a r => simp)
theorem slAt_max {w : World} {v : Value} {n : Nat} {xs : List Value} (h : SlAt w v n xs) : n ≤ maxLen := by
  rcases h with ⟨_, h, _⟩ | ⟨_, _, _, _, h, _⟩
  · rw [h]; exact Nat.zero_le _
  · omega
def cSum : Contract := fnW (Cods.cons cBss Cods.nil) (fun p _ => p.1.flatten.length ≤ 2 ^ 60) (fun p _ v _ => v = BA (sha p.1.flatten))
theorem fl_take {l : List (List Nat)} {i : Nat} (h : i < l.length) : (l.take (i + 1)).flatten = (l.take i).flatten ++ l[i] := by
  rw [List.take_succ_eq_append_getElem h, List.flatten_append, List.flatten_singleton]
theorem fl_le (l : List (List Nat)) (i : Nat) : (l.take i).flatten.length ≤ l.flatten.length := by
  have : l.flatten = (l.take i).flatten ++ (l.drop i).flatten := by rw [← List.flatten_append, List.take_append_drop]
  rw [this, List.length_append]; omega
end Go.Vc

/-
  SHA-512 of the document: word, number, take.
-/
namespace Go.Vc
open Go Go.Proofs Go.RowKit

def cJn : Cod Nat := ⟨fun _ v n => v = J n, fun _ _ _ _ h k => J_inj0 (h.symm.trans k)⟩
/-! ### word -/
def cWord : Contract := fnW (Cods.cons cBs (Cods.cons cJn Cods.nil)) (fun p _ => p.2.1 + 8 ≤ p.1.length) (fun p _ v _ => v = U (beW ((p.1.drop p.2.1).take 8)))
/-! ### number -/
def cNumr : Contract := fnW (Cods.cons cU (Cods.cons cJn Cods.nil)) (fun p _ => p.2.1 = 8) (fun p w v w' => w'.ownsRow w.heap.size 5 1 v 8 ((be8 p.1).map B))
theorem be8_drop {x t : Nat} (ht : t < 8) : (be8 x).drop (7 - t) = (x / 2 ^ (8 * t) % 256) :: (be8 x).drop (8 - t) := by
  rw [List.drop_eq_getElem_cons (by rw [be8_len]; omega), show 7 - t + 1 = 8 - t by omega]
  simp only [be8, List.getElem_map, List.getElem_range]
  rw [show 56 - 8 * (7 - t) = 8 * t by omega]
theorem num_set {x t : Nat} (ht : t < 8) : (List.replicate (8 - t) 0 ++ (be8 x).drop (8 - t)).set (7 - t) (x / 2 ^ (8 * t) % 256) = List.replicate (8 - (t + 1)) 0 ++ (be8 x).drop (8 - (t + 1)) := by
  rw [show 8 - (t + 1) = 7 - t by omega, be8_drop ht, show 8 - t = (7 - t) + 1 by omega, List.replicate_succ', List.append_assoc, List.set_append_right _ _ (by simp), List.length_replicate, Nat.sub_self]
  rfl
/-! ### take -/
/-- Words in an array. -/
def cUA : Cod (List Nat) := ⟨fun _ v l => v = UA l ∧ l.length = 8 ∧ ∀ x ∈ l, x < B64, fun _ v a b h k => by
  have := h.1.symm.trans k.1
  simp only [UA, Value.agg.injEq] at this
  exact mapU_inj (congrArg Array.toList this)⟩
def cRtake : Contract := fnW (Cods.cons cUA (Cods.cons cBs (Cods.cons cJn Cods.nil))) (fun p _ => p.2.2.1 + 128 ≤ p.2.1.length) (fun p _ v _ => v = UA (cpr p.1 ((p.2.1.drop p.2.2.1).take 128)))
theorem zeros8 : Value.agg #[U 0, U 0, U 0, U 0, U 0, U 0, U 0, U 0] = UA (List.replicate 8 0) := by kernel_rfl
end Go.Vc
