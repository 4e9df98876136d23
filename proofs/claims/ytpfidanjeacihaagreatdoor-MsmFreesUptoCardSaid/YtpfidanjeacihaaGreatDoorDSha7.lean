import Derived.Test.YtpfidanjeacihaaGreatDoorDSha5
/-
  SHA-512 of messages; hash.Sum.
-/
namespace Go.Vc
open Go Go.Proofs Go.RowKit

/-! ### the hash of a message -/
def zl (n : Nat) : Nat := (239 - n % 128) % 128
def pad (p : List Nat) : List Nat := p ++ (128 :: List.replicate (zl p.length) 0) ++ be8 0 ++ be8 (p.length * 8 % B64)
def sha (p : List Nat) : List Nat := dig (blk (pad p) ((pad p).length / 128))
theorem pad_len (p : List Nat) : (pad p).length = p.length + 1 + zl p.length + 16 := by simp [pad, be8_len]; omega
theorem sha_len (p : List Nat) : (sha p).length = 64 := dig_len (blk_len _ _)
theorem sha_lt (p : List Nat) : ∀ y ∈ sha p, y < 256 := dig_lt
theorem endB_take {bs : List Nat} {k : Nat} (hl : bs.length = 128) (hk : k < 112) : (endB bs k).take 112 = bs.take k ++ 128 :: List.replicate (111 - k) 0 := by
  have hkl : (bs.take k).length = k := by rw [List.length_take, hl]; omega
  unfold endB
  rw [List.take_append, List.take_of_length_le (by omega), hkl, show 112 - k = (111 - k) + 1 by omega, List.take_succ_cons, List.take_replicate, show min (111 - k) (127 - k) = 111 - k by omega]
theorem fin_law {p hs bs : List Nat} (h : Hl p hs bs) (hl : bs.length = 128) (hn : p.length ≤ 2 ^ 60) : dig (fin hs bs p.length) = sha p := by
  have e0 : p.length * 8 / B64 = 0 := by simp only [B64]; omega
  have hk : p.length % 128 < 128 := Nat.mod_lt _ (by decide)
  have hpl := pad_len p
  have hb := h.bs
  have hkl : (bs.take (p.length % 128)).length = p.length % 128 := by rw [List.length_take, hl]; omega
  unfold sha fin
  have bA : blk (pad p) (p.length / 128) = hs := by
    rw [h.hs, pad, List.append_assoc, List.append_assoc, blk_app _ _ _ (by omega)]
  have dA : (pad p).drop (128 * (p.length / 128)) = bs.take (p.length % 128) ++ ((128 :: List.replicate (zl p.length) 0) ++ be8 0 ++ be8 (p.length * 8 % B64)) := by
    rw [pad, List.append_assoc, List.append_assoc, List.drop_append_of_le_length (by omega), ← hb, List.append_assoc]
  by_cases h112 : 112 ≤ p.length % 128
  · have hz : zl p.length = 239 - p.length % 128 := by unfold zl; omega
    rw [if_pos h112, show (pad p).length / 128 = p.length / 128 + 1 + 1 by rw [hpl, hz]; omega, blk, blk, bA, dA]
    have e1 : (bs.take (p.length % 128) ++ ((128 :: List.replicate (zl p.length) 0) ++ be8 0 ++ be8 (p.length * 8 % B64))).take 128 = endB bs (p.length % 128) := by
      unfold endB
      rw [List.take_append, List.take_of_length_le (by omega), hkl, hz]
      congr 1
      rw [List.append_assoc, List.take_append_of_le_length (by simp; omega), show 128 - p.length % 128 = (127 - p.length % 128) + 1 by omega, List.take_succ_cons, List.take_replicate, show min (127 - p.length % 128) (239 - p.length % 128) = 127 - p.length % 128 by omega]
    have e2 : ((pad p).drop (128 * (p.length / 128 + 1))).take 128 = lenB (List.replicate 128 0) p.length := by
      rw [show 128 * (p.length / 128 + 1) = 128 * (p.length / 128) + 128 by omega, ← List.drop_drop, dA, List.drop_append, List.drop_of_length_le (by omega), List.nil_append, hkl, hz]
      unfold lenB
      rw [e0, List.take_replicate, List.append_assoc, List.drop_append_of_le_length (by simp; omega), show 128 - p.length % 128 = (127 - p.length % 128) + 1 by omega, List.drop_succ_cons, List.drop_replicate, show 239 - p.length % 128 - (127 - p.length % 128) = 112 by omega, List.append_assoc, List.take_of_length_le (by simp [be8_len])]
      rfl
    rw [e1, e2]
  · have hz : zl p.length = 111 - p.length % 128 := by unfold zl; omega
    rw [if_neg h112, show (pad p).length / 128 = p.length / 128 + 1 by rw [hpl, hz]; omega, blk, bA, dA]
    have e1 : (bs.take (p.length % 128) ++ ((128 :: List.replicate (zl p.length) 0) ++ be8 0 ++ be8 (p.length * 8 % B64))).take 128 = lenB (endB bs (p.length % 128)) p.length := by
      rw [List.take_of_length_le (by rw [List.length_append, hkl, hz]; simp [be8_len]; omega)]
      unfold lenB
      rw [endB_take hl (by omega), e0, hz, List.append_assoc, List.append_assoc, List.append_assoc]
    rw [e1]

/-! ### hash.Sum -/
def cBss : Cod (List (List Nat)) := cLL cBs
/-- Parts that lie there. -/
structure Bss (w : World) (v : Value) (vs : List Value) (l : List (List Nat)) : Prop where
  at_ : SlAt w v l.length vs
  len : vs.length = l.length
  all : ∀ (i : Nat) (x : Value) (a : List Nat), vs[i]? = some x → l[i]? = some a → Bs w x a
theorem bss_rd {w : World} {v : Value} {l : List (List Nat)} : cBss.rd w v l ↔ ∃ vs, Bss w v vs l :=
  ⟨fun ⟨vs, h1, h2, h3⟩ => ⟨vs, h1, h2, fun i x a h h' => bs_rd.1 (h3 i x a h h')⟩, fun ⟨vs, h⟩ => ⟨vs, h.at_, h.len, fun i x a h1 h2 => bs_rd.2 (h.all i x a h1 h2)⟩⟩
theorem Bss.stp0 {u w : World} {v : Value} {vs : List Value} {l : List (List Nat)} (h : Bss u v vs l) (hs : Stp [] u w) : Bss w v vs l := ⟨h.at_.stp0 hs, h.len, fun i x a h1 h2 => (h.all i x a h1 h2).stp0 hs⟩
theorem tyBB : ElTy Tryz.prog 115 114 1 24 (.slice none 0 0) := ⟨by kernel_rfl, by kernel_rfl⟩
theorem aggSl : agg? Tryz.prog 114 = some false := by kernel_rfl
theorem Bs.low {w : World} {v : Value} {l : List Nat} (h : Bs w v l) (hne : l ≠ []) : ∀ b, v.ownBlock = some b → b < w.heap.size :=
  slAt_low h.1 (by cases l with | nil => exact absurd rfl hne | cons a r => simp)
theorem slAt_max {w : World} {v : Value} {n : Nat} {xs : List Value} (h : SlAt w v n xs) : n ≤ maxLen := by
  rcases h with ⟨_, h, _⟩ | ⟨_, _, _, _, h, _⟩
  · rw [h]; exact Nat.zero_le _
  · omega
def Tsu : Table := ((T0.add 103 cNew).add 105 cFin).add 104 cWrite
theorem keepTsu : AllKeep Tryz.prog GH Tsu := ((keepH0.add keepsNew).add keepsFin).add keepsWrite
def cSum : Contract := fnW (Cods.cons cBss Cods.nil) (fun p _ => p.1.flatten.length ≤ 2 ^ 60) (fun p _ v _ => v = BA (sha p.1.flatten))
theorem fl_take {l : List (List Nat)} {i : Nat} (h : i < l.length) : (l.take (i + 1)).flatten = (l.take i).flatten ++ l[i] := by
  rw [List.take_succ_eq_append_getElem h, List.flatten_append, List.flatten_singleton]
theorem fl_le (l : List (List Nat)) (i : Nat) : (l.take i).flatten.length ≤ l.flatten.length := by
  have : l.flatten = (l.take i).flatten ++ (l.drop i).flatten := by rw [← List.flatten_append, List.take_append_drop]
  rw [this, List.length_append]; omega
def ann57 : Ann := ⟨[(3, ([9], []))], [], 70, [(103, false), (105, false), (104, true)], [2], none, [], []⟩
def kb57_0 (b0 : Nat) (x2 : Value) : List KB := [⟨b0, true, 117, (aggArr x2)⟩]
theorem vc57 (X : Ctx) (β : Nat → Nat) (x0 : Value) : (run Tryz.prog ann57 57 [.x (.v 0)] [] [] 2).den X (env0 [x0] X.w0) 2 β 0 (fun _ _ _ => False) = (
  Ask (rAgg 64 (.agg #[(.int .u8 0), (.int .u8 0), (.int .u8 0), (.int .u8 0), (.int .u8 0), (.int .u8 0), (.int .u8 0), (.int .u8 0), (.int .u8 0), (.int .u8 0), (.int .u8 0), (.int .u8 0), (.int .u8 0), (.int .u8 0), (.int .u8 0), (.int .u8 0), (.int .u8 0), (.int .u8 0), (.int .u8 0), (.int .u8 0), (.int .u8 0), (.int .u8 0), (.int .u8 0), (.int .u8 0), (.int .u8 0), (.int .u8 0), (.int .u8 0), (.int .u8 0), (.int .u8 0), (.int .u8 0), (.int .u8 0), (.int .u8 0), (.int .u8 0), (.int .u8 0), (.int .u8 0), (.int .u8 0), (.int .u8 0), (.int .u8 0), (.int .u8 0), (.int .u8 0), (.int .u8 0), (.int .u8 0), (.int .u8 0), (.int .u8 0), (.int .u8 0), (.int .u8 0), (.int .u8 0), (.int .u8 0), (.int .u8 0), (.int .u8 0), (.int .u8 0), (.int .u8 0), (.int .u8 0), (.int .u8 0), (.int .u8 0), (.int .u8 0), (.int .u8 0), (.int .u8 0), (.int .u8 0), (.int .u8 0), (.int .u8 0), (.int .u8 0), (.int .u8 0), (.int .u8 0)])) fun x2 =>
  AskNew X.w0 fun b0 =>
  AskW X X.w0 [] (kb57_0 b0 x2) false 103 [] fun x3 w3 =>
  Ask (rLen X.P 115 x0) fun x4 =>
  ∃ (I0 : List Value → World → Prop) (μ0 : List Value → World → Nat), (∀ w, KnownV X w3 [] (kb57_0 b0 x2) w → I0 [(J 0)] w) ∧ ∀ x5 w6, I0 [x5] w6 →
    Ask (rBin X.P .lss 3 false false x5 x4) fun x7 =>
    (∃ t, x7 = .bool t) ∧ (x7 = .bool true →
      Ask (rIad X.P 115 x0 x5) fun x8 =>
      Ask (rLoad X w6 [] 114 x8) fun x9 =>
      AskW X w6 [] (kb57_0 b0 x2) true 104 [x3, x9] fun _ w10 =>
      Ask (rBin X.P .add 3 false true x5 (J 1)) fun x11 =>
      Again X w10 [] [] fun w => I0 [x11] w ∧ μ0 [x11] w < μ0 [x5] w6) ∧ (x7 = .bool false →
      AskW X w6 [] (kb57_0 b0 x2) false 105 [x3] fun x8 w8 =>
      Ask (rAgg 64 x8) fun x9 =>
      Ret X w8 [b0] [] x9)) := by kernel_rfl
theorem keepsSum : Keeps1 Tryz.prog GH 57 cSum := by
  refine keepsW (T := Tsu) (A := ann57) hMix keepTsu hGH (calls_of (by kernel_rfl)) (callsW_of (by kernel_rfl)) fun args ⟨l, _⟩ w0 hrd hpre hg => ?_
  obtain ⟨x, _, rfl, hx, rfl⟩ := hrd
  dsimp only at hx hpre
  obtain ⟨vs, hx⟩ := bss_rd.1 hx
  refine ⟨[.x (.v 0)], [], [], 2, env0 [x] w0, fun b => b, 0, rfl, rfl, fun X hX => mem_none hX rfl, fun X hP hS hw hX hR => ?_⟩
  subst hw; try dsimp only at hR
  rw [vc57 X]
  rw [zeros64]
  refine a_aggB (by simp) ?_
  intro b0 hb0
  refine call_W hX hS (T := Tsu) (f := 103) rfl () (fun w hw => ⟨rfl, trivial⟩) fun v w w' hw k' s1 s2 hv => ?_
  obtain ⟨b, rfl, hb, st0⟩ := hv
  have l0 : b0 < b := by have := hw.low (b := b0) (by simp [kb57_0]); omega
  have hbt : b ∉ tabs := hg.off (by have := hw.sz0; omega)
  have mb : X.mine b := hX.n b (by have := hw.sz0; omega)
  have hkb : ∀ x, b ∉ (kb57_0 b0 x).map (·.b) := fun x => by simp [kb57_0]; omega
  refine a_len hP tyBB hx.at_ ?_
  refine ⟨fun a w => ∃ i hs bs, a = [J i] ∧ i ≤ l.length ∧ StAt w b hs bs (l.take i).flatten.length ∧ Hl (l.take i).flatten hs bs ∧ Kn X w, fun a _ => match a with | [i] => l.length - intNat i | _ => 0,
    fun w hw => ⟨0, _, _, rfl, Nat.zero_le _, st0.stp hw.stp List.not_mem_nil, Hl.nil, hw.kn⟩, ?_⟩
  rintro _ w6 ⟨i, hs, bs, he, hi, st6, hH, k6⟩
  simp only [List.cons.injEq, and_true] at he
  subst he
  rw [ask_lssN]
  refine a_ifD (fun hlt => ?_) fun hge => ?_
  · have hx6 := hx.stp0 (k6.stp0 hX)
    refine a_iadN hP tyBB hx6.at_ hlt ?_
    have hvl : i < vs.length := by rw [hx.len]; exact hlt
    refine a_load_one (c := vs[i]) k6 hx6.at_ (hP ▸ aggSl) (fun _ _ => List.not_mem_nil) (by rw [Nat.mul_one]; exact List.getElem?_eq_getElem hvl) ?_
    have hy := hx.all i _ _ (List.getElem?_eq_getElem hvl) (List.getElem?_eq_getElem hlt)
    have hle := fl_le l (i + 1)
    rw [fl_take hlt, List.length_append] at hle
    refine call_M hX.n hS (T := Tsu) (f := 104) rfl ((b, hs, bs, (l.take i).flatten.length), l[i]) (fun w hw => ⟨⟨_, rfl, ⟨rfl, st6.stp hw.stp List.not_mem_nil⟩, hy.stp0 (hw.kn.stp0 hX), fun g hgo hne => ?_⟩, hbt, by dsimp only; omega⟩) [b] (fun _ h => List.mem_singleton.2 h) (fun g hg => by rw [List.mem_singleton.1 hg]; exact ⟨mb, hkb _⟩) fun _ w9 w10 hw9 k10 s10 su10 hp => ?_
    · have := hy.low hne g hgo
      have := hw.sz0
      dsimp only
      omega
    obtain ⟨_, hs', bs', st10, hH'⟩ := hp
    dsimp only at st10 hH'
    rw [ask_succ (by have := slAt_max hx.at_; simp only [maxLen] at this; omega)]
    intro w11 hw11
    refine ⟨⟨i + 1, hs', bs', rfl, hlt, ?_, ?_, hw11.kn⟩, by simp [intNat]; omega⟩
    · rw [fl_take hlt, List.length_append]; exact st10.stp hw11.stp List.not_mem_nil
    · rw [fl_take hlt]; exact hH' _ rfl hH
  · obtain rfl : i = l.length := by omega
    rw [List.take_length] at st6 hH
    refine call_W hX hS (T := Tsu) (f := 105) rfl (b, hs, bs, l.flatten.length) (fun w hw => ⟨⟨rfl, st6.stp hw.stp List.not_mem_nil⟩, hpre⟩) fun v w7 w8 hw7 k8 s8 su8 hv => ?_
    obtain rfl := hv
    dsimp only
    rw [fin_law hH st6.l128 hpre]
    refine a_aggB (sha_len _) ?_
    exact hR _ _ _ _ fun w hw => rfl
#print axioms keepsSum
end Go.Vc

/-
  SHA-512 of the document: word, number, take.
-/
namespace Go.Vc
open Go Go.Proofs Go.RowKit

def cJn : Cod Nat := ⟨fun _ v n => v = J n, fun _ _ _ _ h k => J_inj0 (h.symm.trans k)⟩
/-! ### word -/
def ann150 : Ann := ⟨[(3, ([5, 6], []))], [], 70, [], [], none, [], []⟩
theorem vc150 (X : Ctx) (β : Nat → Nat) (x0 x1 : Value) : (run Tryz.prog ann150 150 [.x (.v 0), .x (.v 1)] [] [] 3).den X (env0 [x0, x1] X.w0) 3 β 0 (fun _ _ _ => False) = (
  ∃ (I0 : List Value → World → Prop) (μ0 : List Value → World → Nat), (∀ w, KnownV X X.w0 [] [] w → I0 [(U 0), (J 0)] w) ∧ ∀ x3 x4 w5, I0 [x3, x4] w5 →
    Ask (rBin X.P .lss 3 false true x4 (J 8)) fun x6 =>
    (∃ t, x6 = .bool t) ∧ (x6 = .bool true →
      Ask (rBin X.P .shl 23 false true x3 (U 8)) fun x7 =>
      Ask (rBin X.P .add 3 false false x1 x4) fun x8 =>
      Ask (rIad X.P 114 x0 x8) fun x9 =>
      Ask (rLoad X w5 [] 5 x9) fun x10 =>
      Ask (rConv X.P 5 23 x10) fun x11 =>
      Ask (rBin X.P .or 23 false false x7 x11) fun x12 =>
      Ask (rBin X.P .add 3 false true x4 (J 1)) fun x13 =>
      Again X w5 [] [] fun w => I0 [x12, x13] w ∧ μ0 [x12, x13] w < μ0 [x3, x4] w5) ∧ (x6 = .bool false →
      Ret X w5 [] [] x3)) := by kernel_rfl
def cWord : Contract := fnW (Cods.cons cBs (Cods.cons cJn Cods.nil)) (fun p _ => p.2.1 + 8 ≤ p.1.length) (fun p _ v _ => v = U (beW ((p.1.drop p.2.1).take 8)))
theorem keepsWord : Keeps1 Tryz.prog GH 150 cWord := by
  refine keepsW (T := TN) (A := ann150) hMix keepTN hGH (calls_of (by kernel_rfl)) (callsW_of (by kernel_rfl)) fun args ⟨l, k, _⟩ w0 hrd hpre hg => ?_
  obtain ⟨x, _, rfl, hx, _, _, rfl, rfl, rfl⟩ := hrd
  dsimp only at hx hpre
  replace hx := bs_rd.1 hx
  have hmx := hx.len
  simp only [maxLen] at hmx
  refine ⟨[.x (.v 0), .x (.v 1)], [], [], 3, env0 [x, J k] w0, fun b => b, 0, rfl, rfl, fun X hX => mem_none hX rfl, fun X hP hS hw hX hR => ?_⟩
  subst hw; try dsimp only at hR
  rw [vc150 X]
  refine ⟨fun a w => ∃ i, a = [U (beW ((l.drop k).take i)), J i] ∧ i ≤ 8 ∧ Kn X w, fun a _ => match a with | [_, i] => 8 - intNat i | _ => 0, fun w hw => ⟨0, rfl, Nat.zero_le _, hw.kn⟩, ?_⟩
  rintro _ _ w5 ⟨i, he, hi, k5⟩
  simp only [List.cons.injEq, and_true] at he
  obtain ⟨rfl, rfl⟩ := he
  rw [ask_lssN]
  refine a_ifD (fun hlt => ?_) fun hge => ?_
  · have hki : k + i < l.length := by omega
    have hw7 : beW ((l.drop k).take i) < 256 ^ i := by
      have h1 := beW_lt ((l.drop k).take i) (fun x' hx' => hx.lt x' (List.mem_of_mem_drop (List.mem_of_mem_take hx')))
      rwa [show ((l.drop k).take i).length = i by rw [List.length_take, List.length_drop]; omega] at h1
    have hw8 : beW ((l.drop k).take i) * 256 < B64 := by
      have : 256 ^ i ≤ 256 ^ 7 := Nat.pow_le_pow_right (by decide) (by omega)
      simp only [B64] at *; omega
    have hc : l[k + i] < 256 := hx.lt _ (List.getElem_mem hki)
    have hx5 := hx.stp0 (k5.stp0 hX)
    rw [ask_ushlU (by decide), show (2 : Nat) ^ 8 = 256 from rfl, Nat.mod_eq_of_lt hw8, ask_addN (by omega)]
    refine a_iadN hP tyB hx5.at_ hki ?_
    refine a_load_one (c := B l[k + i]) k5 hx5.at_ (hP ▸ aggU8) (fun _ _ => List.not_mem_nil) (by rw [Nat.mul_one, List.getElem?_map, List.getElem?_eq_getElem hki]; rfl) ?_
    rw [hP, ask_b2u (Nat.lt_trans hc (by decide)), ask_uorU 8 hw8 (by omega) hc (Nat.lt_trans hc (by decide)), ask_succ (by omega)]
    intro w2 hw2
    refine ⟨⟨i + 1, ?_, hlt, hw2.kn⟩, by simp [intNat]; omega⟩
    rw [List.take_succ_eq_append_getElem (by rw [List.length_drop]; omega), beW_snoc, List.getElem_drop]
  · obtain rfl : i = 8 := by omega
    exact hR _ _ _ _ fun w hw => rfl

/-! ### number -/
def ann142 : Ann := ⟨[(3, ([0, 6], []))], [], 70, [], [], none, [], []⟩
theorem vc142 (X : Ctx) (β : Nat → Nat) (x0 x1 : Value) : (run Tryz.prog ann142 142 [.x (.v 0), .x (.v 1)] [] [] 3).den X (env0 [x0, x1] X.w0) 3 β 0 (fun _ _ _ => False) = (
  AskO X X.w0 [] [] false (Go.Op.makeSlice 114 (Go.Operand.tmp 7) (Go.Operand.tmp 7)) 114 [(7, x1), (7, x1)] fun x3 w3 =>
  Ask (rBin X.P .sub 3 false true x1 (J 1)) fun x4 =>
  ∃ (I0 : List Value → World → Prop) (μ0 : List Value → World → Nat), (∀ w, KnownV X w3 [] [] w → I0 [x0, x4] w) ∧ ∀ x5 x6 w7, I0 [x5, x6] w7 →
    Ask (rBin X.P .geq 3 false true x6 (J 0)) fun x8 =>
    (∃ t, x8 = .bool t) ∧ (x8 = .bool true →
      Ask (rConv X.P 23 5 x5) fun x9 =>
      Ask (rIad X.P 114 x3 x6) fun x10 =>
      AskO X w7 [] [] true (Go.Op.store 5 (Go.Operand.tmp 19) (Go.Operand.tmp 18)) 0 [(19, x10), (18, x9)] fun _ w11 =>
      Ask (rBin X.P .shr 23 false true x5 (U 8)) fun x12 =>
      Ask (rBin X.P .sub 3 false true x6 (J 1)) fun x13 =>
      Again X w11 [] [] fun w => I0 [x12, x13] w ∧ μ0 [x12, x13] w < μ0 [x5, x6] w7) ∧ (x8 = .bool false →
      Ret X w7 [] [] x3)) := by kernel_rfl
def cNumr : Contract := fnW (Cods.cons cU (Cods.cons cJn Cods.nil)) (fun p _ => p.2.1 = 8) (fun p w v w' => w'.ownsRow w.heap.size 5 1 v 8 ((be8 p.1).map B))
theorem be8_drop {x t : Nat} (ht : t < 8) : (be8 x).drop (7 - t) = (x / 2 ^ (8 * t) % 256) :: (be8 x).drop (8 - t) := by
  rw [List.drop_eq_getElem_cons (by rw [be8_len]; omega), show 7 - t + 1 = 8 - t by omega]
  simp only [be8, List.getElem_map, List.getElem_range]
  rw [show 56 - 8 * (7 - t) = 8 * t by omega]
theorem num_set {x t : Nat} (ht : t < 8) : (List.replicate (8 - t) 0 ++ (be8 x).drop (8 - t)).set (7 - t) (x / 2 ^ (8 * t) % 256) = List.replicate (8 - (t + 1)) 0 ++ (be8 x).drop (8 - (t + 1)) := by
  rw [show 8 - (t + 1) = 7 - t by omega, be8_drop ht, show 8 - t = (7 - t) + 1 by omega, List.replicate_succ', List.append_assoc, List.set_append_right _ _ (by simp), List.length_replicate, Nat.sub_self]
  rfl
theorem keepsNumr : Keeps1 Tryz.prog GH 142 cNumr := by
  refine keepsW (T := TN) (A := ann142) hMix keepTN hGH (calls_of (by kernel_rfl)) (callsW_of (by kernel_rfl)) fun args ⟨x, k, _⟩ w0 hrd hpre hg => ?_
  obtain ⟨_, _, rfl, rfl, _, _, rfl, rfl, rfl⟩ := hrd
  dsimp only at hpre
  subst hpre
  refine ⟨[.x (.v 0), .x (.v 1)], [], [], 3, env0 [U x, J 8] w0, fun b => b, 0, rfl, rfl, fun X hX => mem_none hX rfl, fun X hP hS hw hX hR => ?_⟩
  subst hw; try dsimp only at hR
  rw [vc142 X]
  refine a_make (n := 8) hX hP tyB rfl rfl (by decide) (by simp only [maxLen]; omega) fun g w w1 hw k1 s1 _ o1 => ?_
  rw [made_one (by rfl), ← mapB_rep, ← flatC] at o1
  rw [ask_subN (by omega) (by omega)]
  refine ⟨fun a w2 => ∃ t : Nat, a = [U (x / 2 ^ (8 * t)), .int .i64 (7 - (t : Int))] ∧ t ≤ 8 ∧ w2.ownsRow w.heap.size 5 1 (.slice (some ⟨g, 0, none⟩) 8 8) 8 ((List.replicate (8 - t) 0 ++ (be8 x).drop (8 - t)).flatMap encC) ∧ Kn X w2, fun a _ => match a with | [_, .int _ i] => (i + 1).toNat | _ => 0,
    fun w2 hw2 => ⟨0, by simp [Nat.div_one], Nat.zero_le _, own_stp0 (by rw [List.drop_of_length_le (by rw [be8_len]; omega), List.append_nil]; exact o1) hw2.stp, hw2.kn⟩, ?_⟩
  rintro _ _ w7 ⟨t, he, ht, ho, k7⟩
  simp only [List.cons.injEq, and_true] at he
  obtain ⟨rfl, rfl⟩ := he
  rw [ask_geq]
  refine a_ifD (fun hlt => ?_) fun hge => ?_
  · have h8 : t < 8 := by omega
    have e7 : (7 - (t : Int)) = ((7 - t : Nat) : Int) := by omega
    rw [hP, ask_u2b, ← hP, e7]
    refine a_iadN hP tyB (own_slAt ho) (by omega) ?_
    refine a_store (vs := [B (x / 2 ^ (8 * t) % 256)]) hX hP szU8 rfl rfl rfl rfl rfl ho hw.sz0 (by omega) (by decide) (fun _ _ => List.not_mem_nil) (fun _ _ _ _ => List.not_mem_nil) fun _ w3 w4 hw3 k4 s4 su o4 => ?_
    rw [ask_ushrU (by decide), Nat.div_div_eq_div_mul, ← Nat.pow_add, ask_sub, wrap_i64 (by omega) (by omega)]
    intro w5 hw5
    refine ⟨⟨t + 1, ?_, h8, ?_, hw5.kn⟩, by simp⟩
    · have e8 : ((7 - t : Nat) : Int) - ((1 : Nat) : Int) = 7 - ((t + 1 : Nat) : Int) := by omega
      rw [e8, show 8 * t + 8 = 8 * (t + 1) by omega]
    · have e := lset_flat (enc := encC) encC_len (x / 2 ^ (8 * t) % 256) (List.replicate (8 - t) 0 ++ (be8 x).drop (8 - t)) (7 - t) (by simp [be8_len]; omega)
      rw [num_set h8] at e
      rw [← e]
      exact own_stp0 o4 hw5.stp
  · obtain rfl : t = 8 := by omega
    refine hR _ _ _ _ fun w3 hw3 => ?_
    have := own_mono (own_stp0 ho hw3.stp) hw.sz0
    rw [flatC] at this
    exact this

/-! ### take -/
def ann143 : Ann := ⟨[(3, ([8], [2])), (14, ([14], [3])), (25, ([22], [0]))], [151], 70, [(150, false)], [3, 6, 7, 13], none, [], []⟩
def kb143_0 (b0 b1 b2 : Nat) (x4 x5 x6 : Value) : List KB := [⟨b0, true, 165, (aggArr x4)⟩, ⟨b1, true, 165, (aggArr x5)⟩, ⟨b2, true, 211, (aggArr x6)⟩]
def kb143_1 (b0 b1 b2 : Nat) (x4 x5 x8 : Value) : List KB := [⟨b0, true, 165, (aggArr x4)⟩, ⟨b1, true, 165, (aggArr x5)⟩, ⟨b2, true, 211, (aggArr x8)⟩]
def kb143_2 (b0 b1 b2 b3 : Nat) (x4 x5 x8 x12 : Value) : List KB := [⟨b0, true, 165, (aggArr x4)⟩, ⟨b1, true, 165, (aggArr x5)⟩, ⟨b2, true, 211, (aggArr x8)⟩, ⟨b3, true, 165, (aggArr x12)⟩]
def kb143_3 (b0 b1 b2 b3 : Nat) (x4 x5 x8 x14 : Value) : List KB := [⟨b0, true, 165, (aggArr x4)⟩, ⟨b1, true, 165, (aggArr x5)⟩, ⟨b2, true, 211, (aggArr x8)⟩, ⟨b3, true, 165, (aggArr x14)⟩]
theorem vc143 (X : Ctx) (β : Nat → Nat) (x0 x1 x2 : Value) : (run Tryz.prog ann143 143 [.x (.v 0), .x (.v 1), .x (.v 2)] [] [] 4).den X (env0 [x0, x1, x2] X.w0) 4 β 0 (fun _ _ _ => False) = (
  Ask (rAgg 8 x0) fun x4 =>
  AskNew X.w0 fun b0 =>
  Ask (rAgg 8 (.agg #[(U 0), (U 0), (U 0), (U 0), (U 0), (U 0), (U 0), (U 0)])) fun x5 =>
  AskNew X.w0 fun b1 =>
  Ask (rAgg 80 (.agg #[(U 0), (U 0), (U 0), (U 0), (U 0), (U 0), (U 0), (U 0), (U 0), (U 0), (U 0), (U 0), (U 0), (U 0), (U 0), (U 0), (U 0), (U 0), (U 0), (U 0), (U 0), (U 0), (U 0), (U 0), (U 0), (U 0), (U 0), (U 0), (U 0), (U 0), (U 0), (U 0), (U 0), (U 0), (U 0), (U 0), (U 0), (U 0), (U 0), (U 0), (U 0), (U 0), (U 0), (U 0), (U 0), (U 0), (U 0), (U 0), (U 0), (U 0), (U 0), (U 0), (U 0), (U 0), (U 0), (U 0), (U 0), (U 0), (U 0), (U 0), (U 0), (U 0), (U 0), (U 0), (U 0), (U 0), (U 0), (U 0), (U 0), (U 0), (U 0), (U 0), (U 0), (U 0), (U 0), (U 0), (U 0), (U 0), (U 0), (U 0)])) fun x6 =>
  AskNew X.w0 fun b2 =>
  ∃ (I0 : List Value → World → Prop) (μ0 : List Value → World → Nat), (∀ w, KnownV X X.w0 [] (kb143_0 b0 b1 b2 x4 x5 x6) w → I0 [(J 0), x6] w) ∧ ∀ x7 x8 w9, I0 [x7, x8] w9 →
    Ask (rBin X.P .lss 3 false true x7 (J 80)) fun x10 =>
    (∃ t, x10 = .bool t) ∧ (x10 = .bool true →
      Ask (rBin X.P .lss 3 false true x7 (J 16)) fun x11 =>
      (∃ t, x11 = .bool t) ∧ (x11 = .bool true →
        Ask (rBin X.P .mul 3 true false (J 8) x7) fun x12 =>
        Ask (rBin X.P .add 3 false false x2 x12) fun x13 =>
        AskW X w9 [] (kb143_1 b0 b1 b2 x4 x5 x8) false 150 [x1, x13] fun x14 w14 =>
        Ask (rIx 80 x7) fun x15 =>
        Ask (rUpd (aggArr x8) (0 + intNat x15 * 1) 1 x14) fun x16 =>
        Ask (rBin X.P .add 3 false true x7 (J 1)) fun x17 =>
        Again X w14 [b2] [] fun w => I0 [x17, x16] w ∧ μ0 [x17, x16] w < μ0 [x7, x8] w9) ∧ (x11 = .bool false →
        Ask (rBin X.P .sub 3 false true x7 (J 2)) fun x12 =>
        Ask (rIx 80 x12) fun x13 =>
        Ask (rSel (aggArr x8) (0 + intNat x13 * 1) 1 false) fun x14 =>
        Ask (rBin X.P .sub 3 false true x7 (J 15)) fun x15 =>
        Ask (rIx 80 x15) fun x16 =>
        Ask (rSel (aggArr x8) (0 + intNat x16 * 1) 1 false) fun x17 =>
        AskF X 151 [x14, (J 19)] fun x18 =>
        AskF X 151 [x14, (J 61)] fun x19 =>
        Ask (rBin X.P .xor 23 false false x18 x19) fun x20 =>
        Ask (rBin X.P .shr 23 false true x14 (U 6)) fun x21 =>
        Ask (rBin X.P .xor 23 false false x20 x21) fun x22 =>
        AskF X 151 [x17, (J 1)] fun x23 =>
        AskF X 151 [x17, (J 8)] fun x24 =>
        Ask (rBin X.P .xor 23 false false x23 x24) fun x25 =>
        Ask (rBin X.P .shr 23 false true x17 (U 7)) fun x26 =>
        Ask (rBin X.P .xor 23 false false x25 x26) fun x27 =>
        Ask (rBin X.P .sub 3 false true x7 (J 7)) fun x28 =>
        Ask (rIx 80 x28) fun x29 =>
        Ask (rSel (aggArr x8) (0 + intNat x29 * 1) 1 false) fun x30 =>
        Ask (rBin X.P .add 23 false false x22 x30) fun x31 =>
        Ask (rBin X.P .add 23 false false x31 x27) fun x32 =>
        Ask (rBin X.P .sub 3 false true x7 (J 16)) fun x33 =>
        Ask (rIx 80 x33) fun x34 =>
        Ask (rSel (aggArr x8) (0 + intNat x34 * 1) 1 false) fun x35 =>
        Ask (rBin X.P .add 23 false false x32 x35) fun x36 =>
        Ask (rIx 80 x7) fun x37 =>
        Ask (rUpd (aggArr x8) (0 + intNat x37 * 1) 1 x36) fun x38 =>
        Ask (rBin X.P .add 3 false true x7 (J 1)) fun x39 =>
        Again X w9 [b2] [] fun w => I0 [x39, x38] w ∧ μ0 [x39, x38] w < μ0 [x7, x8] w9)) ∧ (x10 = .bool false →
      Ask (rAgg 8 (.agg #[(U 0), (U 0), (U 0), (U 0), (U 0), (U 0), (U 0), (U 0)])) fun _ =>
      AskNew w9 fun b3 =>
      Ask (rAgg 8 x4) fun x12 =>
      ∃ (I0 : List Value → World → Prop) (μ0 : List Value → World → Nat), (∀ w, KnownV X w9 [b3] (kb143_2 b0 b1 b2 b3 x4 x5 x8 x12) w → I0 [(J 0), x12] w) ∧ ∀ x13 x14 w15, I0 [x13, x14] w15 →
        Ask (rBin X.P .lss 3 false true x13 (J 80)) fun x16 =>
        (∃ t, x16 = .bool t) ∧ (x16 = .bool true →
          Ask (rSel (aggArr x14) 4 1 false) fun x17 =>
          Ask (rSel (aggArr x14) 0 1 false) fun x18 =>
          Ask (rSel (aggArr x14) 5 1 false) fun x19 =>
          Ask (rBin X.P .and 23 false false x17 x19) fun x20 =>
          Ask (rUn X.P .xor x17) fun x21 =>
          Ask (rSel (aggArr x14) 6 1 false) fun x22 =>
          Ask (rBin X.P .and 23 false false x21 x22) fun x23 =>
          Ask (rBin X.P .xor 23 false false x20 x23) fun x24 =>
          Ask (rSel (aggArr x14) 1 1 false) fun x25 =>
          Ask (rBin X.P .and 23 false false x18 x25) fun x26 =>
          Ask (rSel (aggArr x14) 2 1 false) fun x27 =>
          Ask (rBin X.P .and 23 false false x18 x27) fun x28 =>
          Ask (rBin X.P .xor 23 false false x26 x28) fun x29 =>
          Ask (rSel (aggArr x14) 1 1 false) fun x30 =>
          Ask (rSel (aggArr x14) 2 1 false) fun x31 =>
          Ask (rBin X.P .and 23 false false x30 x31) fun x32 =>
          Ask (rBin X.P .xor 23 false false x29 x32) fun x33 =>
          AskF X 151 [x17, (J 14)] fun x34 =>
          AskF X 151 [x17, (J 18)] fun x35 =>
          Ask (rBin X.P .xor 23 false false x34 x35) fun x36 =>
          AskF X 151 [x17, (J 41)] fun x37 =>
          Ask (rBin X.P .xor 23 false false x36 x37) fun x38 =>
          AskF X 151 [x18, (J 28)] fun x39 =>
          AskF X 151 [x18, (J 34)] fun x40 =>
          Ask (rBin X.P .xor 23 false false x39 x40) fun x41 =>
          AskF X 151 [x18, (J 39)] fun x42 =>
          Ask (rBin X.P .xor 23 false false x41 x42) fun x43 =>
          Ask (rSel (aggArr x14) 7 1 false) fun x44 =>
          Ask (rBin X.P .add 23 false false x44 x38) fun x45 =>
          Ask (rBin X.P .add 23 false false x45 x24) fun x46 =>
          Ask (rIad X.P 211 (.pointer (some ⟨7, 0, none⟩)) x13) fun x47 =>
          Ask (rLoad X w15 [] 23 x47) fun x48 =>
          Ask (rBin X.P .add 23 false false x46 x48) fun x49 =>
          Ask (rIx 80 x13) fun x50 =>
          Ask (rSel (aggArr x8) (0 + intNat x50 * 1) 1 false) fun x51 =>
          Ask (rBin X.P .add 23 false false x49 x51) fun x52 =>
          Ask (rBin X.P .add 23 false false x52 x43) fun x53 =>
          Ask (rBin X.P .add 23 false false x53 x33) fun x54 =>
          Ask (rSel (aggArr x14) 0 1 false) fun x55 =>
          Ask (rSel (aggArr x14) 1 1 false) fun x56 =>
          Ask (rSel (aggArr x14) 2 1 false) fun x57 =>
          Ask (rSel (aggArr x14) 3 1 false) fun x58 =>
          Ask (rBin X.P .add 23 false false x58 x52) fun x59 =>
          Ask (rSel (aggArr x14) 4 1 false) fun x60 =>
          Ask (rSel (aggArr x14) 5 1 false) fun x61 =>
          Ask (rSel (aggArr x14) 6 1 false) fun x62 =>
          Ask (rPlain x54) fun x63 =>
          Ask (rPlain x55) fun x64 =>
          Ask (rPlain x56) fun x65 =>
          Ask (rPlain x57) fun x66 =>
          Ask (rPlain x59) fun x67 =>
          Ask (rPlain x60) fun x68 =>
          Ask (rPlain x61) fun x69 =>
          Ask (rPlain x62) fun x70 =>
          Ask (rAgg 8 (.agg #[x63, x64, x65, x66, x67, x68, x69, x70])) fun x71 =>
          Ask (rBin X.P .add 3 false true x13 (J 1)) fun x72 =>
          Again X w15 [b3] [] fun w => I0 [x72, x71] w ∧ μ0 [x72, x71] w < μ0 [x13, x14] w15) ∧ (x16 = .bool false →
          ∃ (I0 : List Value → World → Prop) (μ0 : List Value → World → Nat), (∀ w, KnownV X w15 [] (kb143_3 b0 b1 b2 b3 x4 x5 x8 x14) w → I0 [(J 0), x4] w) ∧ ∀ x17 x18 w19, I0 [x17, x18] w19 →
            Ask (rBin X.P .lss 3 false true x17 (J 8)) fun x20 =>
            (∃ t, x20 = .bool t) ∧ (x20 = .bool true →
              Ask (rIx 8 x17) fun x21 =>
              Ask (rSel (aggArr x18) (0 + intNat x21 * 1) 1 false) fun x22 =>
              Ask (rIx 8 x17) fun x23 =>
              Ask (rSel (aggArr x14) (0 + intNat x23 * 1) 1 false) fun x24 =>
              Ask (rBin X.P .add 23 false false x22 x24) fun x25 =>
              Ask (rIx 8 x17) fun x26 =>
              Ask (rUpd (aggArr x18) (0 + intNat x26 * 1) 1 x25) fun x27 =>
              Ask (rBin X.P .add 3 false true x17 (J 1)) fun x28 =>
              Again X w19 [b0] [] fun w => I0 [x28, x27] w ∧ μ0 [x28, x27] w < μ0 [x17, x18] w19) ∧ (x20 = .bool false →
              Ask (rAgg 8 x18) fun x21 =>
              Ret X w19 [b1] [] x21)))) := by kernel_rfl
def Trtk : Table := (T0.add 151 cRotr).add 150 cWord
theorem keepTrtk : AllKeep Tryz.prog GH Trtk := (keepH0.add (keepsRotr.inG gGT)).add keepsWord
/-- Words in an array. -/
def cUA : Cod (List Nat) := ⟨fun _ v l => v = UA l ∧ l.length = 8 ∧ ∀ x ∈ l, x < B64, fun _ v a b h k => by
  have := h.1.symm.trans k.1
  simp only [UA, Value.agg.injEq] at this
  exact mapU_inj (congrArg Array.toList this)⟩
def cRtake : Contract := fnW (Cods.cons cUA (Cods.cons cBs (Cods.cons cJn Cods.nil))) (fun p _ => p.2.2.1 + 128 ≤ p.2.1.length) (fun p _ v _ => v = UA (cpr p.1 ((p.2.1.drop p.2.2.1).take 128)))
theorem zeros8 : Value.agg #[U 0, U 0, U 0, U 0, U 0, U 0, U 0, U 0] = UA (List.replicate 8 0) := by kernel_rfl
theorem keepsRtake : Keeps1 Tryz.prog GH 143 cRtake := by
  refine keepsW (T := Trtk) (A := ann143) hMix keepTrtk hGH (calls_of (by kernel_rfl)) (callsW_of (by kernel_rfl)) fun args ⟨hs, l, k, _⟩ w0 hrd hpre hg => ?_
  obtain ⟨_, _, rfl, ⟨rfl, h8, hlt⟩, x, _, rfl, hx, _, _, rfl, rfl, rfl⟩ := hrd
  dsimp only at hx hpre h8 hlt
  replace hx := bs_rd.1 hx
  have hmx := hx.len
  simp only [maxLen] at hmx
  refine ⟨[.x (.v 0), .x (.v 1), .x (.v 2)], [], [], 4, env0 [UA hs, x, J k] w0, fun b => b, 0, rfl, rfl, fun X hX => mem_none hX rfl, fun X hP hS hw hX hR => ?_⟩
  subst hw; try dsimp only at hR
  rw [vc143 X]
  obtain ⟨bs, hbs⟩ : ∃ bs, bs = (l.drop k).take 128 := ⟨_, rfl⟩
  have hb128 : bs.length = 128 := by rw [hbs, List.length_take, List.length_drop]; omega
  have hblt : ∀ x ∈ bs, x < 256 := fun y hy => hx.lt y (List.mem_of_mem_drop (List.mem_of_mem_take (hbs ▸ hy)))
  have mlt := wordAt_lt hblt
  have rot : ∀ {a k : Nat} {K : Value → Prop}, a < B64 → 0 < k → k < 64 → K (U (rr a k)) → AskF X 151 [U a, J k] K := fun ha h0 h1 hK => call_PE hS (T := Trtk) (f := 151) rfl (_, _) ⟨ha, h0, h1⟩ hK
  refine a_aggU h8 ?_
  intro b0 hb0
  rw [zeros8]
  refine a_aggU rfl ?_
  intro b1 hb1
  rw [zeros80]
  refine a_aggU rfl ?_
  intro b2 hb2
  refine ⟨fun a w => ∃ t, a = [J t, UA (sch (wordAt bs) t ++ List.replicate (80 - t) 0)] ∧ t ≤ 80 ∧ Kn X w, fun a _ => match a with | [i, _] => 80 - intNat i | _ => 0, fun w hw => ⟨0, rfl, Nat.zero_le _, hw.kn⟩, ?_⟩
  rintro _ _ w9 ⟨t, he, ht, k9⟩
  simp only [List.cons.injEq, and_true] at he
  obtain ⟨rfl, rfl⟩ := he
  have hlen : (sch (wordAt bs) t ++ List.replicate (80 - t) 0).length = 80 := by simp [sch_len]; omega
  have slt : ∀ i, (sch (wordAt bs) t).getD i 0 < B64 := getD_lt (sch_lt mlt t) (by decide)
  rw [ask_lssN]
  refine a_ifD (fun hlt80 => ?_) fun hge => ?_
  · have sel : ∀ {i : Nat} {K : Value → Prop}, i < t → K (U ((sch (wordAt bs) t).getD i 0)) → Ask (rSel (aggArr (UA (sch (wordAt bs) t ++ List.replicate (80 - t) 0))) (0 + intNat (J i) * 1) 1 false) K := fun {i K} hi hK =>
      a_selU (k := i) (by rw [intNatJ]; omega) (by rw [hlen]; omega) (by rw [sched_get hi]; exact hK)
    have fin_ : ∀ {w : World}, Kn X w → (UA ((sch (wordAt bs) t ++ List.replicate (80 - t) 0).set t (nx (wordAt bs) (sch (wordAt bs) t) t))) = UA (sch (wordAt bs) (t + 1) ++ List.replicate (80 - (t + 1)) 0) := fun _ => by
      rw [show 80 - t = (80 - (t + 1)) + 1 by omega, sched_set]
    rw [ask_lssN]
    refine a_ifD (fun h16 => ?_) fun h16 => ?_
    · rw [ask_mulN (by omega), ask_addN (by omega)]
      refine call_W hX hS (T := Trtk) (f := 150) rfl (l, k + 8 * t, ()) (fun w hw => ⟨⟨_, _, rfl, bs_rd.2 (hx.stp0 (hw.kn.stp0 hX)), _, _, rfl, rfl, rfl⟩, by dsimp only; omega⟩) fun v w w' hw k' s1 s2 hv => ?_
      obtain rfl := hv
      dsimp only
      have e : beW ((l.drop (k + 8 * t)).take 8) = nx (wordAt bs) (sch (wordAt bs) t) t := by
        unfold nx
        rw [if_pos h16, wordAt, hbs, List.drop_take, List.drop_drop, List.take_take, show min 8 (128 - 8 * t) = 8 by omega]
      rw [e, ask_ixN (by omega)]
      refine a_updU (k := t) (by rw [intNatJ]; omega) (by rw [hlen]; omega) ?_
      rw [ask_succ (by omega), fin_ k']
      intro w2 hw2
      exact ⟨⟨t + 1, rfl, hlt80, hw2.kn⟩, by simp [intNat]; omega⟩
    · rw [ask_subN (by omega) (by omega), ask_ixN (by omega)]
      refine sel (by omega) ?_
      rw [ask_subN (by omega) (by omega), ask_ixN (by omega)]
      refine sel (by omega) ?_
      refine rot (k := 19) (slt _) (by decide) (by decide) (rot (k := 61) (slt _) (by decide) (by decide) ?_)
      rw [ask_uxor (rr_lt _ (slt _)) (rr_lt _ (slt _)), ask_ushrU (by decide), ask_uxor (xor_lt (rr_lt _ (slt _)) (rr_lt _ (slt _))) (div_lt _ (slt _))]
      refine rot (k := 1) (slt _) (by decide) (by decide) (rot (k := 8) (slt _) (by decide) (by decide) ?_)
      rw [ask_uxor (rr_lt _ (slt _)) (rr_lt _ (slt _)), ask_ushrU (by decide), ask_uxor (xor_lt (rr_lt _ (slt _)) (rr_lt _ (slt _))) (div_lt _ (slt _))]
      rw [ask_subN (by omega) (by omega), ask_ixN (by omega)]
      refine sel (by omega) ?_
      rw [ask_uaddA, ask_uaddA, ask_subN (by omega) (by omega), ask_ixN (by omega)]
      refine sel (by omega) ?_
      rw [ask_uaddA, ask_ixN (by omega), ← nx_ge (by omega)]
      refine a_updU (k := t) (by rw [intNatJ]; omega) (by rw [hlen]; omega) ?_
      rw [ask_succ (by omega), fin_ k9]
      intro w2 hw2
      exact ⟨⟨t + 1, rfl, hlt80, hw2.kn⟩, by simp [intNat]; omega⟩
  obtain rfl : t = 80 := by omega
  refine a_aggU rfl ?_
  intro b3 hb3
  refine a_aggU h8 ?_
  have v0 := of_ok hlt
  have hof : hs = (V8.of hs).l := by
    match hs, h8 with
    | [_, _, _, _, _, _, _, _], _ => rfl
  refine ⟨fun a w => ∃ t, a = [J t, UA (rnds (sch (wordAt bs) 80) t (V8.of hs)).l] ∧ t ≤ 80 ∧ Kn X w, fun a _ => match a with | [i, _] => 80 - intNat i | _ => 0, fun w hw => ⟨0, by rw [hof]; rfl, Nat.zero_le _, hw.kn⟩, ?_⟩
  rintro _ _ w15 ⟨t, he, ht, k15⟩
  simp only [List.cons.injEq, and_true] at he
  obtain ⟨rfl, rfl⟩ := he
  have hv := rnds_ok (ws := sch (wordAt bs) 80) v0 t
  rw [ask_lssN]
  refine a_ifD (fun hlt80 => ?_) fun hge => ?_
  · generalize hvv : rnds (sch (wordAt bs) 80) t (V8.of hs) = v at hv ⊢
    obtain ⟨ha, hb, hc, hd, he, hf, hgg, hh⟩ := hv
    have hne : B64 - 1 - v.e < B64 := by simp only [B64]; omega
    have s4 : ∀ {K : Value → Prop}, K (U v.e) → Ask (rSel (aggArr (UA v.l)) 4 1 false) K := fun h => a_selU (k := 4) rfl (show 4 < 8 by decide) h
    have s0 : ∀ {K : Value → Prop}, K (U v.a) → Ask (rSel (aggArr (UA v.l)) 0 1 false) K := fun h => a_selU (k := 0) rfl (show 0 < 8 by decide) h
    have s5 : ∀ {K : Value → Prop}, K (U v.f) → Ask (rSel (aggArr (UA v.l)) 5 1 false) K := fun h => a_selU (k := 5) rfl (show 5 < 8 by decide) h
    have s6 : ∀ {K : Value → Prop}, K (U v.g) → Ask (rSel (aggArr (UA v.l)) 6 1 false) K := fun h => a_selU (k := 6) rfl (show 6 < 8 by decide) h
    have s1 : ∀ {K : Value → Prop}, K (U v.b) → Ask (rSel (aggArr (UA v.l)) 1 1 false) K := fun h => a_selU (k := 1) rfl (show 1 < 8 by decide) h
    have s2 : ∀ {K : Value → Prop}, K (U v.c) → Ask (rSel (aggArr (UA v.l)) 2 1 false) K := fun h => a_selU (k := 2) rfl (show 2 < 8 by decide) h
    have s3 : ∀ {K : Value → Prop}, K (U v.d) → Ask (rSel (aggArr (UA v.l)) 3 1 false) K := fun h => a_selU (k := 3) rfl (show 3 < 8 by decide) h
    have s7 : ∀ {K : Value → Prop}, K (U v.h) → Ask (rSel (aggArr (UA v.l)) 7 1 false) K := fun h => a_selU (k := 7) rfl (show 7 < 8 by decide) h
    refine s4 (s0 (s5 ?_))
    rw [ask_uand he hf, ask_unot he]
    refine s6 ?_
    rw [ask_uand hne hgg, ask_uxor (and_lt _ he) (and_lt _ hne)]
    refine s1 ?_
    rw [ask_uand ha hb]
    refine s2 ?_
    rw [ask_uand ha hc, ask_uxor (and_lt _ ha) (and_lt _ ha)]
    refine s1 (s2 ?_)
    rw [ask_uand hb hc, ask_uxor (xor_lt (and_lt _ ha) (and_lt _ ha)) (and_lt _ hb)]
    refine rot (k := 14) he (by decide) (by decide) (rot (k := 18) he (by decide) (by decide) ?_)
    rw [ask_uxor (rr_lt _ he) (rr_lt _ he)]
    refine rot (k := 41) he (by decide) (by decide) ?_
    rw [ask_uxor (xor_lt (rr_lt _ he) (rr_lt _ he)) (rr_lt _ he)]
    refine rot (k := 28) ha (by decide) (by decide) (rot (k := 34) ha (by decide) (by decide) ?_)
    rw [ask_uxor (rr_lt _ ha) (rr_lt _ ha)]
    refine rot (k := 39) ha (by decide) (by decide) ?_
    rw [ask_uxor (xor_lt (rr_lt _ ha) (rr_lt _ ha)) (rr_lt _ ha)]
    refine s7 ?_
    rw [ask_uaddA, ask_uaddA]
    refine a_iadP hP arK szU64 hlt80 ?_
    have tb := hg.k2.stp (k15.stp0 hX) List.not_mem_nil
    rw [ask_load_one (hP ▸ aggU64) tb.lt List.not_mem_nil (v := U (Ks.getD t 0)) (by have := tb.at_ t hlt80; simpa using this) k15.some]
    rw [ask_uaddA, ask_ixN (by omega)]
    refine a_selU (k := t) (by rw [intNatJ]; omega) (by simp [sch_len]; omega) ?_
    have e80 : (sch (wordAt bs) 80 ++ List.replicate (80 - 80) 0).getD t 0 = (sch (wordAt bs) 80).getD t 0 := by simp
    rw [e80, ask_uaddA, ask_uaddA, ask_uaddA]
    refine s0 (s1 (s2 (s3 ?_)))
    rw [ask_uaddA]
    refine s4 (s5 (s6 ?_))
    iterate 8 rw [ask_uplain]
    refine a_aggU (l := (rnd (Ks.getD t 0) ((sch (wordAt bs) 80).getD t 0) v).l) rfl ?_
    rw [ask_succ (by omega)]
    intro w2 hw2
    refine ⟨⟨t + 1, ?_, hlt80, hw2.kn⟩, by simp [intNat]; omega⟩
    simp only [rnds, hvv]
  obtain rfl : t = 80 := by omega
  have hcl := cpr_len (bs := bs) h8
  refine ⟨fun a w => ∃ i, a = [J i, UA ((cpr hs bs).take i ++ hs.drop i)] ∧ i ≤ 8 ∧ Kn X w, fun a _ => match a with | [i, _] => 8 - intNat i | _ => 0, fun w hw => ⟨0, rfl, Nat.zero_le _, hw.kn⟩, ?_⟩
  rintro _ _ w19 ⟨i, he, hi, k19⟩
  simp only [List.cons.injEq, and_true] at he
  obtain ⟨rfl, rfl⟩ := he
  have hwl : ((cpr hs bs).take i ++ hs.drop i).length = 8 := by rw [List.length_append, List.length_take, List.length_drop, hcl, h8]; omega
  rw [ask_lssN]
  refine a_ifD (fun hlt8 => ?_) fun hge => ?_
  · have hcp := cpr_at (bs := bs) h8 hlt8
    have hgi := words_at (hs := hs) hcl hlt8
    rw [ask_ixN hlt8]
    refine a_selU (k := i) (by rw [intNatJ]; omega) (by rw [hwl]; exact hlt8) ?_
    rw [ask_ixN hlt8]
    refine a_selU (k := i) (by rw [intNatJ]; omega) (show i < 8 from hlt8) ?_
    rw [hgi, ask_uaddA, ← hcp, ask_ixN hlt8]
    refine a_updU (k := i) (by rw [intNatJ]; omega) (by rw [hwl]; exact hlt8) ?_
    rw [words_step hcl h8 hlt8, ask_succ (by omega)]
    intro w2 hw2
    exact ⟨⟨i + 1, rfl, hlt8, hw2.kn⟩, by simp [intNat]; omega⟩
  obtain rfl : i = 8 := by omega
  refine a_aggU hwl ?_
  refine hR _ _ _ _ fun w hw => ?_
  rw [List.take_of_length_le (by rw [hcl]; exact Nat.le_refl _), List.drop_of_length_le (by rw [h8]; exact Nat.le_refl _), List.append_nil, hbs]
#print axioms keepsRtake
end Go.Vc
