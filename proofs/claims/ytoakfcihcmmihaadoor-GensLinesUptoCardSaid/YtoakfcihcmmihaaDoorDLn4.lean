/-
  Lines from bytes: the program's set.
-/
import Derived.Test.YtoakfcihcmmihaaDoorDLn3
import Derived.Test.YtoakfcihcmmihaaDoorDBas3
import Derived.Test.YtoakfcihcmmihaaDoorDGen5
namespace Go.Vc
open Go Go.Proofs Go.RowKit

def glist (f : List Nat) (k n : Nat) : List Nat := (List.range n).map (glN f k)
theorem glist_len (f : List Nat) (k n : Nat) : (glist f k n).length = n := by simp [glist]
theorem glist_succ (f : List Nat) (k n : Nat) : glist f k (n + 1) = glist f k n ++ [glN f k n] := by simp [glist, List.range_succ]
theorem glist_ok {f : List Nat} {k n : Nat} : ∀ x ∈ glist f k n, okS x := fun x hx => by
  obtain ⟨i, _, rfl⟩ := List.mem_map.1 hx
  exact glN_lt f k i
theorem glN_mod (f : List Nat) (k i : Nat) : glN f k i % lN = glN f k i := Nat.mod_eq_of_lt (Nat.mod_lt _ (by decide))
theorem glist_lm (f : List Nat) (k n : Nat) : lm (glist f k n) = glist f k n := by
  unfold lm glist
  rw [List.map_map]
  exact List.map_congr_left fun i _ => glN_mod f k i

abbrev CloL (b : Nat) : Value := .func (.func 96) #[] #[.pointer (some ⟨b, 0, none⟩)]
def cBlL : Cods (Nat × List Nat) := ⟨fun w l p => ∃ b x, l = [J p.1, CloL b] ∧ w.cell? ⟨b, 0, none⟩ = some x ∧ Bs w x p.2, fun w l ⟨n, f⟩ ⟨m, f'⟩ ⟨b, x, e, h, hx⟩ ⟨b', x', e', h', hx'⟩ => by
  dsimp only at e h hx e' h' hx'
  rw [e] at e'
  simp only [List.cons.injEq, Value.func.injEq, true_and, and_true] at e'
  obtain ⟨e1, e2⟩ := e'
  have e2 := congrArg Array.toList e2
  simp only [List.cons.injEq, Value.pointer.injEq, Option.some.injEq, Addr.mk.injEq, and_true] at e2
  subst e2
  rw [h] at h'
  obtain rfl := Option.some.inj h'
  obtain rfl := J_inj0 e1
  obtain rfl := cBs.inj _ _ _ _ (bs_rd.2 hx) (bs_rd.2 hx')
  rfl⟩
/-- The set's lists, as they are made. -/
def LSet (lo : Nat) (w : World) (f : List Nat) (n : Nat) (v : Value) : Prop := ∃ g h, v = SetV (glN f 1 0) (glN f 2 0) (glN f 3 0) g h ∧ w.ownsRow lo 26 4 g n ((glist f 4 n).flatMap encS) ∧ w.ownsRow lo 26 4 h n ((glist f 5 n).flatMap encS)
theorem LSet.stp {lo : Nat} {u w : World} {f : List Nat} {n : Nat} {v : Value} {ex : List Nat} (h : LSet lo u f n v) (hs : Stp ex u w) (he : ∀ b ∈ ex, b < lo) : LSet lo w f n v := by
  obtain ⟨g, h, e, og, oh⟩ := h
  exact ⟨g, h, e, own_stp og hs (off_own og he), own_stp oh hs (off_own oh he)⟩
theorem LSet.rd {lo : Nat} {w : World} {f : List Nat} {n : Nat} {v : Value} (h : LSet lo w f n v) : cSetL.rd w v (glN f 1 0, glN f 2 0, glN f 3 0, glist f 4 n, glist f 5 n) := by
  obtain ⟨g, h, e, og, oh⟩ := h
  exact ⟨g, h, e, glN_lt _ _ _, glN_lt _ _ _, glN_lt _ _ _, ⟨by rw [glist_len]; exact own_slAt og, glist_ok⟩, ⟨by rw [glist_len]; exact own_slAt oh, glist_ok⟩⟩
def cBuildL : Contract := fnW cBlL (fun p _ => p.1 ≤ 1024 ∧ p.2.length ≤ mxF) (fun p w v w' => LSet w.heap.size w' p.2 p.1 v)
def Tbl : Table := T0.add 96 cLn1
theorem keepTbl : AllKeep Tryd.prog GH Tbl := keepH0.add keepsLn1

def ann95 : Ann := ⟨[(3, ([15], [1]))], [], 70, [], [], some true, [], []⟩
def kb95_0 (b0 : Nat) : List KB := [⟨b0, true, 29, #[(U 0), (U 0), (U 0), (U 0), (U 0), (U 0), (U 0), (U 0), (U 0), (U 0), (U 0), (U 0), (.slice none 0 0), (.slice none 0 0)]⟩]
def kb95_1 (b0 b1 : Nat) (x21 x22 x23 x24 x25 x26 x27 x28 x29 x30 x31 x32 : Value) : List KB := [⟨b0, true, 29, #[(U 0), (U 0), (U 0), (U 0), (U 0), (U 0), (U 0), (U 0), (U 0), (U 0), (U 0), (U 0), (.slice none 0 0), (.slice none 0 0)]⟩, ⟨b1, true, 29, #[x21, x22, x23, x24, x25, x26, x27, x28, x29, x30, x31, x32, (.slice none 0 0), (.slice none 0 0)]⟩]
def kb95_2 (b0 b1 : Nat) (x34 x35 x36 x37 x38 x39 x40 x41 x42 x43 x44 x45 x46 x47 : Value) : List KB := [⟨b0, true, 29, #[(U 0), (U 0), (U 0), (U 0), (U 0), (U 0), (U 0), (U 0), (U 0), (U 0), (U 0), (U 0), (.slice none 0 0), (.slice none 0 0)]⟩, ⟨b1, true, 29, #[x34, x35, x36, x37, x38, x39, x40, x41, x42, x43, x44, x45, x46, x47]⟩]
def kb95_3 (b0 b1 : Nat) (x34 x35 x36 x37 x38 x39 x40 x41 x42 x43 x44 x45 x53 x47 : Value) : List KB := [⟨b0, true, 29, #[(U 0), (U 0), (U 0), (U 0), (U 0), (U 0), (U 0), (U 0), (U 0), (U 0), (U 0), (U 0), (.slice none 0 0), (.slice none 0 0)]⟩, ⟨b1, true, 29, #[x34, x35, x36, x37, x38, x39, x40, x41, x42, x43, x44, x45, x53, x47]⟩]
theorem vc95 (X : Ctx) (β : Nat → Nat) (x0 x1 : Value) : (run Tryd.prog ann95 95 [.x (.v 0), .x (.v 1)] [] [] 3).den X (env0 [x0, x1] X.w0) 3 β 0 (fun _ _ _ => False) = (
  AskNew X.w0 fun b0 =>
  AskV X X.w0 [] (kb95_0 b0) true x1 [(J 1), (J 0)] fun x3 w3 =>
  AskV X w3 [] (kb95_0 b0) true x1 [(J 2), (J 0)] fun x4 w4 =>
  AskV X w4 [] (kb95_0 b0) true x1 [(J 3), (J 0)] fun x5 w5 =>
  Ask (rAgg 4 x3) fun x6 =>
  Ask (rSel (aggArr x6) 0 1 false) fun x7 =>
  Ask (rSel (aggArr x6) 1 1 false) fun x8 =>
  Ask (rSel (aggArr x6) 2 1 false) fun x9 =>
  Ask (rSel (aggArr x6) 3 1 false) fun x10 =>
  Ask (rAgg 4 x4) fun x11 =>
  Ask (rSel (aggArr x11) 0 1 false) fun x12 =>
  Ask (rSel (aggArr x11) 1 1 false) fun x13 =>
  Ask (rSel (aggArr x11) 2 1 false) fun x14 =>
  Ask (rSel (aggArr x11) 3 1 false) fun x15 =>
  Ask (rAgg 4 x5) fun x16 =>
  Ask (rSel (aggArr x16) 0 1 false) fun x17 =>
  Ask (rSel (aggArr x16) 1 1 false) fun x18 =>
  Ask (rSel (aggArr x16) 2 1 false) fun x19 =>
  Ask (rSel (aggArr x16) 3 1 false) fun x20 =>
  AskNew w5 fun b1 =>
  Ask (rPlain x7) fun x21 =>
  Ask (rPlain x8) fun x22 =>
  Ask (rPlain x9) fun x23 =>
  Ask (rPlain x10) fun x24 =>
  Ask (rPlain x12) fun x25 =>
  Ask (rPlain x13) fun x26 =>
  Ask (rPlain x14) fun x27 =>
  Ask (rPlain x15) fun x28 =>
  Ask (rPlain x17) fun x29 =>
  Ask (rPlain x18) fun x30 =>
  Ask (rPlain x19) fun x31 =>
  Ask (rPlain x20) fun x32 =>
  ∃ (I0 : List Value → World → Prop) (μ0 : List Value → World → Nat), (∀ w, KnownV X w5 [b1] (kb95_1 b0 b1 x21 x22 x23 x24 x25 x26 x27 x28 x29 x30 x31 x32) w → I0 [(J 0), x21, x22, x23, x24, x25, x26, x27, x28, x29, x30, x31, x32, (.slice none 0 0), (.slice none 0 0)] w) ∧ ∀ x33 x34 x35 x36 x37 x38 x39 x40 x41 x42 x43 x44 x45 x46 x47 w48, I0 [x33, x34, x35, x36, x37, x38, x39, x40, x41, x42, x43, x44, x45, x46, x47] w48 →
    Ask (rBin X.P .lss 3 false false x33 x0) fun x49 =>
    (∃ t, x49 = .bool t) ∧ (x49 = .bool true →
      AskV X w48 [] (kb95_2 b0 b1 x34 x35 x36 x37 x38 x39 x40 x41 x42 x43 x44 x45 x46 x47) true x1 [(J 4), x33] fun x50 w50 =>
      AskO X w50 [] (kb95_2 b0 b1 x34 x35 x36 x37 x38 x39 x40 x41 x42 x43 x44 x45 x46 x47) false (Go.Op.buildSlice 27 1 #[(0, Go.Operand.tmp 22)]) 27 [(22, x50)] fun x51 w51 =>
      AskO X w51 [] (kb95_2 b0 b1 x34 x35 x36 x37 x38 x39 x40 x41 x42 x43 x44 x45 x46 x47) true (appOp (.tmp 19) (.tmp 23) 27) 27 [(19, x46), (23, x51)] fun x52 w52 =>
      Ask (rPlain x52) fun x53 =>
      AskV X w52 [b1] (kb95_3 b0 b1 x34 x35 x36 x37 x38 x39 x40 x41 x42 x43 x44 x45 x53 x47) true x1 [(J 5), x33] fun x54 w54 =>
      AskO X w54 [] (kb95_3 b0 b1 x34 x35 x36 x37 x38 x39 x40 x41 x42 x43 x44 x45 x53 x47) false (Go.Op.buildSlice 27 1 #[(0, Go.Operand.tmp 30)]) 27 [(30, x54)] fun x55 w55 =>
      AskO X w55 [] (kb95_3 b0 b1 x34 x35 x36 x37 x38 x39 x40 x41 x42 x43 x44 x45 x53 x47) true (appOp (.tmp 27) (.tmp 31) 27) 27 [(27, x47), (31, x55)] fun x56 w56 =>
      Ask (rPlain x56) fun x57 =>
      Ask (rBin X.P .add 3 false true x33 (J 1)) fun x58 =>
      Again X w56 [b1] [] fun w => I0 [x58, x34, x35, x36, x37, x38, x39, x40, x41, x42, x43, x44, x45, x53, x57] w ∧ μ0 [x58, x34, x35, x36, x37, x38, x39, x40, x41, x42, x43, x44, x45, x53, x57] w < μ0 [x33, x34, x35, x36, x37, x38, x39, x40, x41, x42, x43, x44, x45, x46, x47] w48) ∧ (x49 = .bool false →
      Ask (rPlain x34) fun x50 =>
      Ask (rPlain x35) fun x51 =>
      Ask (rPlain x36) fun x52 =>
      Ask (rPlain x37) fun x53 =>
      Ask (rPlain x38) fun x54 =>
      Ask (rPlain x39) fun x55 =>
      Ask (rPlain x40) fun x56 =>
      Ask (rPlain x41) fun x57 =>
      Ask (rPlain x42) fun x58 =>
      Ask (rPlain x43) fun x59 =>
      Ask (rPlain x44) fun x60 =>
      Ask (rPlain x45) fun x61 =>
      Ask (rPlain x46) fun x62 =>
      Ask (rPlain x47) fun x63 =>
      Ret X w48 [b0] [] (.agg #[x50, x51, x52, x53, x54, x55, x56, x57, x58, x59, x60, x61, x62, x63]))) := by kernel_rfl
theorem keepsBuildL : Keeps1 Tryd.prog GH 95 cBuildL := by
  refine keepsW (T := Tbl) (A := ann95) hMix keepTbl hGH (calls_of (by kernel_rfl)) (callsW_of (by kernel_rfl)) fun args ⟨n, f⟩ w0 hrd hpre hg => ?_
  obtain ⟨b, x, rfl, hcell, hx⟩ := hrd
  dsimp only at hcell hx hpre
  obtain ⟨hn, hf⟩ := hpre
  refine ⟨[.x (.v 0), .x (.v 1)], [], [], 3, env0 [J n, CloL b] w0, fun b => b, 0, rfl, rfl, fun X hX => mem_none hX rfl, fun X hP hS hw hX hR => ?_⟩
  subst hw; try dsimp only at hR
  rw [vc95 X]
  have hbl : b < X.w0.heap.size := World.block_lt_of_cell? X.w0 _ hcell
  have cellAt : ∀ {w}, Kn X w → w.cell? ⟨b, 0, none⟩ = some x := fun hk => by rw [World.cell?_of_block (w := X.w0) ((hk.stp0 hX).past b hbl List.not_mem_nil)]; exact hcell
  have one : ∀ (k i : Nat) (u : World) (ow : List Nat) (bl : List KB) (KW : Value → World → Prop), k < 256 → i ≤ 1024 →
      (∀ w w', KnownV X u ow bl w → Kn X w' → Stp [] w w' → Stp ow u w' → KW (S (glN f k i)) w') → AskV X u ow bl true (CloL b) [J k, J i] KW := fun k i u ow bl KW h1 h2 hK => by
    refine call_V hX hS rfl (fun args w => by rw [hP]; exact enters_of (by kernel_rfl) args w) (T := Tbl) (f := 96) rfl (k, i, f) (fun w hw => ⟨⟨b, x, rfl, cellAt hw.kn, hx.stp0 (hw.kn.stp0 hX)⟩, h1, (by dsimp only; omega), hf⟩) fun v w w' hw hk hs hsu hp => ?_
    obtain rfl := hp
    exact hK w w' hw hk hs hsu
  intro b0 hb0
  refine one 1 0 _ _ _ _ (by decide) (by decide) fun u1 w1 h1 k1 s1 su1 => ?_
  refine one 2 0 _ _ _ _ (by decide) (by decide) fun u2 w2 h2 k2 s2 su2 => ?_
  refine one 3 0 _ _ _ _ (by decide) (by decide) fun u3 w3 h3 k3 s3 su3 => ?_
  have lo3 : b0 < u3.heap.size := h3.low (by simp [kb95_0])
  rw [ask_aggS, ask_selS0, ask_selS1, ask_selS2, ask_selS3, ask_aggS, ask_selS0, ask_selS1, ask_selS2, ask_selS3, ask_aggS, ask_selS0, ask_selS1, ask_selS2, ask_selS3]
  intro b1 hb1
  have b01 : b0 < b1 := by have := s3.size; omega
  iterate 12 rw [ask_uplain]
  generalize ea : glN f 1 0 = A
  generalize eb : glN f 2 0 = B_
  generalize ec : glN f 3 0 = C
  refine ⟨fun a w => ∃ (k B : Nat) (g h : Value), a = [J k, U (lb A 0), U (lb A 1), U (lb A 2), U (lb A 3), U (lb B_ 0), U (lb B_ 1), U (lb B_ 2), U (lb B_ 3), U (lb C 0), U (lb C 1), U (lb C 2), U (lb C 3), g, h] ∧ k ≤ n ∧ b1 < B ∧ X.w0.heap.size ≤ B ∧ B ≤ w.heap.size ∧
      w.ownsRow B 26 4 g k ((glist f 4 k).flatMap encS) ∧ w.ownsRow B 26 4 h k ((glist f 5 k).flatMap encS) ∧ (∀ q, g.ownBlock = some q → h.ownBlock ≠ some q) ∧ Kn X w,
    fun a _ => match a with | i :: _ => n - intNat i | _ => 0,
    fun w hw => ⟨0, w.heap.size, _, _, rfl, Nat.zero_le _, hw.low (by simp [kb95_1]), hw.sz0, Nat.le_refl _, World.ownsRow_nil _ _ _ _, World.ownsRow_nil _ _ _ _, (fun _ h => by cases h), hw.kn⟩, ?_⟩
  rintro _ _ _ _ _ _ _ _ _ _ _ _ _ g h w ⟨k, B, g', h', he, hk, hB, hB0, hBw, og, oh, hgh, hkn⟩
  simp only [List.cons.injEq, and_true] at he
  obtain ⟨rfl, rfl, rfl, rfl, rfl, rfl, rfl, rfl, rfl, rfl, rfl, rfl, rfl, rfl, rfl⟩ := he
  rw [ask_lssN]
  refine a_ifD (fun hlt => ?_) fun hge => ?_
  · refine one 4 k _ _ _ _ (by decide) (by omega) fun u4 w4 h4 k4 s4 su4 => ?_
    have s4w := su4.size
    have og4 := own_stp0 og su4
    have oh4 := own_stp0 oh su4
    refine a_push (encS (glN f 4 k)).toArray hX hP tyL rfl rfl (by decide) (by decide) (by decide) (by kernel_rfl) rfl (one_encS' _) rfl hB0 (by omega) og4 (by simp only [maxLen]; omega) (by omega) fun g2 w5 k5 s5 og5 hbl5 => ?_
    have eg : (glist f 4 k).flatMap encS ++ (encS (glN f 4 k)).toArray.toList = (glist f 4 (k + 1)).flatMap encS := by rw [glist_succ, List.flatMap_append]; simp
    rw [eg] at og5
    refine a_plain (own_one og5) ?_
    have oh5 := own_stp oh4 s5 fun q hq hm => hgh q (by simpa using hm) hq
    have hgh5 : ∀ q, g2.ownBlock = some q → h.ownBlock ≠ some q := fun q hq hh => by
      rcases hbl5 with hb | ⟨r, hb, hr⟩
      · rw [hb] at hq; exact hgh q hq hh
      · rw [hb] at hq; cases hq
        have := (oh4.lt _ hh).2
        omega
    refine one 5 k _ _ _ _ (by decide) (by omega) fun u6 w6 h6 k6 s6 su6 => ?_
    have s5w := s5.size
    have s6w := su6.size
    have hBb : b1 < B := hB
    have og6 := own_stp og5 su6 (off_own og5 (all1 hBb))
    have oh6 := own_stp oh5 su6 (off_own oh5 (all1 hBb))
    refine a_push (encS (glN f 5 k)).toArray hX hP tyL rfl rfl (by decide) (by decide) (by decide) (by kernel_rfl) rfl (one_encS' _) rfl hB0 (by omega) oh6 (by simp only [maxLen]; omega) (by omega) fun g3 w7 k7 s7 oh7 hbl7 => ?_
    have eh : (glist f 5 k).flatMap encS ++ (encS (glN f 5 k)).toArray.toList = (glist f 5 (k + 1)).flatMap encS := by rw [glist_succ, List.flatMap_append]; simp
    rw [eh] at oh7
    refine a_plain (own_one oh7) ?_
    rw [ask_succ (by omega)]
    intro w8 hw8
    have s8w := hw8.size
    have s7w := s7.size
    have og7 := own_stp og6 s7 fun q hq hm => hgh5 q hq (by simpa using hm)
    have hgh7 : ∀ q, g2.ownBlock = some q → g3.ownBlock ≠ some q := fun q hq hh => by
      rcases hbl7 with hb | ⟨r, hb, hr⟩
      · rw [hb] at hh; exact hgh5 q hq hh
      · rw [hb] at hh; cases hh
        have := (og6.lt _ hq).2
        omega
    exact ⟨⟨k + 1, B, g2, g3, rfl, hlt, hB, hB0, by omega, own_stp og7 hw8.stp (off_own og7 (all1 hBb)), own_stp oh7 hw8.stp (off_own oh7 (all1 hBb)), hgh7, hw8.kn⟩, by simp [intNat]; omega⟩
  · obtain rfl : k = n := by omega
    iterate 12 rw [ask_uplain]
    refine a_plain (own_one og) ?_
    refine a_plain (own_one oh) ?_
    have hb0B : b0 < B := by omega
    refine hR _ _ _ _ fun w9 hw9 => ?_
    subst ea; subst eb; subst ec
    exact ⟨g, h, rfl, own_mono (own_stp og hw9.stp (off_own og (all1 hb0B))) hB0, own_mono (own_stp oh hw9.stp (off_own oh (all1 hb0B))) hB0⟩
#print axioms keepsBuildL
end Go.Vc
