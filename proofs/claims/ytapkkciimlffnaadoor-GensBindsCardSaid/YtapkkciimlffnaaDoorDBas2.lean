/-
  The sets in which there is no relation: the set, on both sides.
-/
import Derived.Test.YtapkkciimlffnaaDoorDBas
namespace Go.Vc
open Go Go.Proofs Go.RowKit

/-- Lists of different types lie apart. -/
theorem own_apart {w : World} {b1 b2 s1 s2 n1 n2 : Nat} {e1 e2 : TypeId} {v1 v2 : Value} {xs ys : List Value} (h1 : w.ownsRow b1 e1 s1 v1 n1 xs) (h2 : w.ownsRow b2 e2 s2 v2 n2 ys) (hne : (e1 == e2) = false) : ∀ b, v1.ownBlock = some b → b ∉ v2.ownBlock.toList := fun b hb hm => by
  rcases h1.2 with ⟨rfl, _⟩ | ⟨g, cap, cur, rfl, _, hg, _⟩
  · cases hb
  · rcases h2.2 with ⟨rfl, _⟩ | ⟨g', cap', cur', rfl, _, hg', _⟩
    · simp [Value.ownBlock] at hm
    · cases hb
      simp only [Value.ownBlock, Option.toList_some, List.mem_singleton] at hm
      subst hm
      rw [hg] at hg'
      simp only [Option.some.injEq, Obj.cells.injEq] at hg'
      rw [hg'.2.1] at hne
      simp at hne
/-- A unit list of the call's own, off the blocks b. -/
def Uw (e lo : Nat) (w : World) (v : Value) (k : Nat) : Prop := w.ownsRow lo e 4 v (k + 1) ((unitL k).flatMap encS)
def Un (e lo : Nat) (w : World) (b : List Nat) (v : Value) (k : Nat) : Prop := Uw e lo w v k ∧ ∀ g, v.ownBlock = some g → g ∉ b
theorem Un.stp {e lo : Nat} {u w : World} {b : List Nat} {k : Nat} {v : Value} {ex : List Nat} (h : Un e lo u b v k) (hs : Stp ex u w) (hb : ∀ g, v.ownBlock = some g → g ∈ ex → g ∈ b) : Un e lo w b v k :=
  ⟨own_stp h.1 hs fun g hg hm => h.2 g hg (hb g hg hm), h.2⟩
theorem Un.stp0 {e lo : Nat} {u w : World} {b : List Nat} {k : Nat} {v : Value} (h : Un e lo u b v k) (hs : Stp [] u w) : Un e lo w b v k := h.stp hs fun _ _ h => by cases h
/-- Lists of them. -/
def Uns (e lo : Nat) (w : World) (b : List Nat) (vs : List Value) (f : Nat → Nat) : Prop := ∀ (i : Nat) (v : Value), vs[i]? = some v → Un e lo w b v (f i)
theorem Uns.stp {e lo : Nat} {u w : World} {b : List Nat} {vs : List Value} {f : Nat → Nat} {ex : List Nat} (h : Uns e lo u b vs f) (hs : Stp ex u w) (hb : ∀ v ∈ vs, ∀ g, v.ownBlock = some g → g ∈ ex → g ∈ b) : Uns e lo w b vs f := fun i v hv => (h i v hv).stp hs (hb v (List.mem_of_getElem? hv))
theorem Uns.stp0 {e lo : Nat} {u w : World} {b : List Nat} {vs : List Value} {f : Nat → Nat} (h : Uns e lo u b vs f) (hs : Stp [] u w) : Uns e lo w b vs f := h.stp hs fun _ _ _ _ h => by cases h
theorem Uns.push {e lo : Nat} {w : World} {b : List Nat} {vs : List Value} {f : Nat → Nat} (h : Uns e lo w b vs f) {v : Value} (hv : Un e lo w b v (f vs.length)) : Uns e lo w b (vs ++ [v]) f := fun i x hx => by
  rcases Nat.lt_or_ge i vs.length with hi | hi
  · rw [List.getElem?_append_left hi] at hx; exact h i x hx
  · rw [List.getElem?_append_right hi] at hx
    have : i - vs.length = 0 := by have := (List.getElem?_eq_some_iff.1 hx).1; simp at this; omega
    rw [this] at hx
    simp at hx; subst hx
    have : i = vs.length := by omega
    rw [this]; exact hv
theorem Uns.apart {e e2 lo : Nat} {w : World} {b : List Nat} {vs : List Value} {f : Nat → Nat} (h : Uns e lo w b vs f) {base size n : Nat} {x : Value} {xs : List Value} (hx : w.ownsRow base e2 size x n xs) (hne : (e == e2) = false) : ∀ v ∈ vs, ∀ g, v.ownBlock = some g → g ∈ x.ownBlock.toList → g ∈ b := fun v hv g hg hm => by
  obtain ⟨i, hi⟩ := List.getElem?_of_mem hv
  exact absurd hm (own_apart (h i v hi).1 hx hne g hg)

abbrev Clo (b : Nat) : Value := .func (.func 42) #[] #[.pointer (some ⟨b, 0, none⟩)]
def cBld : Cods Nat := ⟨fun w l n => ∃ b, l = [J n, Clo b] ∧ w.cell? ⟨b, 0, none⟩ = some (J n), fun w l n m ⟨b, e, h⟩ ⟨b', e', h'⟩ => by
  rw [e] at e'
  simp only [List.cons.injEq, and_true] at e'
  exact J_inj e'.1⟩
/-- The set's lists, as they are read. -/
def FSet (e lo : Nat) (w : World) (n : Nat) (x y z g h : Value) (vs us : List Value) : Prop := Uw e lo w x 0 ∧ Uw e lo w y 1 ∧ Uw e lo w z 2 ∧ vs.length = n ∧ us.length = n ∧ (∀ (i : Nat) (v : Value), vs[i]? = some v → Uw e lo w v (3 + i)) ∧ (∀ (i : Nat) (v : Value), us[i]? = some v → Uw e lo w v (3 + n + i)) ∧
  (∀ q, g.ownBlock = some q → lo ≤ q) ∧ (∀ q, h.ownBlock = some q → lo ≤ q)
theorem Uw.stp {e lo : Nat} {u w : World} {v : Value} {k : Nat} {ex : List Nat} (h : Uw e lo u v k) (hs : Stp ex u w) (he : ∀ b ∈ ex, b < lo) : Uw e lo w v k := own_stp h hs (off_own h he)
theorem FSet.stp {e lo : Nat} {u w : World} {n : Nat} {x y z g h : Value} {vs us : List Value} {ex : List Nat} (k : FSet e lo u n x y z g h vs us) (hs : Stp ex u w) (he : ∀ b ∈ ex, b < lo) : FSet e lo w n x y z g h vs us :=
  ⟨k.1.stp hs he, k.2.1.stp hs he, k.2.2.1.stp hs he, k.2.2.2.1, k.2.2.2.2.1, fun i v hv => (k.2.2.2.2.2.1 i v hv).stp hs he, fun i v hv => (k.2.2.2.2.2.2.1 i v hv).stp hs he, k.2.2.2.2.2.2.2⟩
theorem Uw.rd {e lo : Nat} {w : World} {v : Value} {k : Nat} (h : Uw e lo w v k) : cLS.rd w v (unitL k) := ⟨by rw [unit_len]; exact own_slAt h, unit_ok k⟩
def cBuild : Contract := fnW cBld (fun n _ => n ≤ 64) (fun n w v w' => ∃ x y z g h vs us, v = .agg #[x, y, z, g, h] ∧ SlAt w' g n vs ∧ SlAt w' h n us ∧ FSet 34 w.heap.size w' n x y z g h vs us)
def Tbu : Table := T0.add 42 cBasisC
theorem keepTbu : AllKeep Tryd.prog GT Tbu := keepT0.add keepsBasisC

def ann41 : Ann := ⟨[(3, ([15], [1]))], [], 70, [], [], some true, [], []⟩
def kb41_0 (b0 : Nat) : List KB := [⟨b0, true, 50, #[(.slice none 0 0), (.slice none 0 0), (.slice none 0 0), (.slice none 0 0), (.slice none 0 0)]⟩]
def kb41_1 (b0 b1 : Nat) (x12 x13 x14 : Value) : List KB := [⟨b0, true, 50, #[(.slice none 0 0), (.slice none 0 0), (.slice none 0 0), (.slice none 0 0), (.slice none 0 0)]⟩, ⟨b1, true, 50, #[x12, x13, x14, (.slice none 0 0), (.slice none 0 0)]⟩]
def kb41_2 (b0 b1 : Nat) (x16 x17 x18 x19 x20 : Value) : List KB := [⟨b0, true, 50, #[(.slice none 0 0), (.slice none 0 0), (.slice none 0 0), (.slice none 0 0), (.slice none 0 0)]⟩, ⟨b1, true, 50, #[x16, x17, x18, x19, x20]⟩]
def kb41_3 (b0 b1 : Nat) (x16 x17 x18 x26 x20 : Value) : List KB := [⟨b0, true, 50, #[(.slice none 0 0), (.slice none 0 0), (.slice none 0 0), (.slice none 0 0), (.slice none 0 0)]⟩, ⟨b1, true, 50, #[x16, x17, x18, x26, x20]⟩]
theorem vc41 (X : Ctx) (β : Nat → Nat) (x0 x1 : Value) : (run Tryd.prog ann41 41 [.x (.v 0), .x (.v 1)] [] [] 3).den X (env0 [x0, x1] X.w0) 3 β 0 (fun _ _ _ => False) = (
  AskNew X.w0 fun b0 =>
  AskV X X.w0 [] (kb41_0 b0) true x1 [(J 1), (J 0)] fun x3 w3 =>
  AskV X w3 [] (kb41_0 b0) true x1 [(J 2), (J 0)] fun x4 w4 =>
  AskV X w4 [] (kb41_0 b0) true x1 [(J 3), (J 0)] fun x5 w5 =>
  Ask (rAgg 1 x3) fun x6 =>
  Ask (rSel (aggArr x6) 0 1 false) fun x7 =>
  Ask (rAgg 1 x4) fun x8 =>
  Ask (rSel (aggArr x8) 0 1 false) fun x9 =>
  Ask (rAgg 1 x5) fun x10 =>
  Ask (rSel (aggArr x10) 0 1 false) fun x11 =>
  AskNew w5 fun b1 =>
  Ask (rPlain x7) fun x12 =>
  Ask (rPlain x9) fun x13 =>
  Ask (rPlain x11) fun x14 =>
  ∃ (I0 : List Value → World → Prop) (μ0 : List Value → World → Nat), (∀ w, KnownV X w5 [b1] (kb41_1 b0 b1 x12 x13 x14) w → I0 [(J 0), x12, x13, x14, (.slice none 0 0), (.slice none 0 0)] w) ∧ ∀ x15 x16 x17 x18 x19 x20 w21, I0 [x15, x16, x17, x18, x19, x20] w21 →
    Ask (rBin X.P .lss 3 false false x15 x0) fun x22 =>
    (∃ t, x22 = .bool t) ∧ (x22 = .bool true →
      AskV X w21 [] (kb41_2 b0 b1 x16 x17 x18 x19 x20) true x1 [(J 4), x15] fun x23 w23 =>
      AskO X w23 [] (kb41_2 b0 b1 x16 x17 x18 x19 x20) false (Go.Op.buildSlice 48 1 #[(0, Go.Operand.tmp 22)]) 48 [(22, x23)] fun x24 w24 =>
      AskO X w24 [] (kb41_2 b0 b1 x16 x17 x18 x19 x20) true (appOp (.tmp 19) (.tmp 23) 48) 48 [(19, x19), (23, x24)] fun x25 w25 =>
      Ask (rPlain x25) fun x26 =>
      AskV X w25 [b1] (kb41_3 b0 b1 x16 x17 x18 x26 x20) true x1 [(J 5), x15] fun x27 w27 =>
      AskO X w27 [] (kb41_3 b0 b1 x16 x17 x18 x26 x20) false (Go.Op.buildSlice 48 1 #[(0, Go.Operand.tmp 30)]) 48 [(30, x27)] fun x28 w28 =>
      AskO X w28 [] (kb41_3 b0 b1 x16 x17 x18 x26 x20) true (appOp (.tmp 27) (.tmp 31) 48) 48 [(27, x20), (31, x28)] fun x29 w29 =>
      Ask (rPlain x29) fun x30 =>
      Ask (rBin X.P .add 3 false true x15 (J 1)) fun x31 =>
      Again X w29 [b1] [] fun w => I0 [x31, x16, x17, x18, x26, x30] w ∧ μ0 [x31, x16, x17, x18, x26, x30] w < μ0 [x15, x16, x17, x18, x19, x20] w21) ∧ (x22 = .bool false →
      Ask (rPlain x16) fun x23 =>
      Ask (rPlain x17) fun x24 =>
      Ask (rPlain x18) fun x25 =>
      Ask (rPlain x19) fun x26 =>
      Ask (rPlain x20) fun x27 =>
      Ret X w21 [b0] [] (.agg #[x23, x24, x25, x26, x27]))) := by kernel_rfl
theorem keepsBuild : Keeps1 Tryd.prog GT 41 cBuild := by
  refine keepsW (T := Tbu) (A := ann41) hMix keepTbu hGT (calls_of (by kernel_rfl)) (callsW_of (by kernel_rfl)) fun args n w0 hrd hpre _ => ?_
  obtain ⟨b, rfl, hcell⟩ := hrd
  refine ⟨[.x (.v 0), .x (.v 1)], [], [], 3, env0 [J n, Clo b] w0, fun b => b, 0, rfl, rfl, fun X hX => mem_none hX rfl, fun X hP hS hw hX hR => ?_⟩
  subst hw; try dsimp only at hR
  rw [vc41 X]
  have hbl : b < X.w0.heap.size := World.block_lt_of_cell? X.w0 _ hcell
  have cellAt : ∀ {w}, Kn X w → w.cell? ⟨b, 0, none⟩ = some (J n) := fun hk => by rw [World.cell?_of_block (w := X.w0) ((hk.stp0 hX).past b hbl List.not_mem_nil)]; exact hcell
  have one : ∀ (k i : Nat) (u : World) (ow : List Nat) (bl : List KB) (KW : Value → World → Prop), 1 ≤ k → k ≤ 5 → i ≤ 64 →
      (∀ x w w', KnownV X u ow bl w → Kn X w' → Stp [] w w' → Stp ow u w' → w'.ownsRow w.heap.size 34 4 x (plc k i n + 1) ((unitL (plc k i n)).flatMap encS) → KW (.agg #[x]) w') →
      AskV X u ow bl true (Clo b) [J k, J i] KW := fun k i u ow bl KW h1 h2 h3 hK => by
    refine call_V hX hS rfl (fun args w => by rw [hP]; exact enters_of (by kernel_rfl) args w) (T := Tbu) (f := 42) rfl (k, i, n) (fun w hw => ⟨⟨b, rfl, cellAt hw.kn⟩, h1, h2, h3, hpre⟩) fun v w w' hw hk hs hsu hp => ?_
    obtain ⟨x, rfl, hx⟩ := hp
    exact hK x w w' hw hk hs hsu hx
  intro b0 hb0
  refine one 1 0 _ _ _ _ (by decide) (by decide) (by decide) fun x u1 w1 h1 k1 s1 su1 ox => ?_
  refine one 2 0 _ _ _ _ (by decide) (by decide) (by decide) fun y u2 w2 h2 k2 s2 su2 oy => ?_
  refine one 3 0 _ _ _ _ (by decide) (by decide) (by decide) fun z u3 w3 h3 k3 s3 su3 oz => ?_
  simp only [plc, if_true, if_neg (show ¬ 2 = 1 by decide), if_neg (show ¬ 3 = 1 by decide), if_neg (show ¬ 3 = 2 by decide)] at ox oy oz
  have px := own_one ox; have py := own_one oy; have pz := own_one oz
  refine a_agg (cs := [x]) rfl (by simp [px]) (a_sel1 rfl ?_)
  refine a_agg (cs := [y]) rfl (by simp [py]) (a_sel1 rfl ?_)
  refine a_agg (cs := [z]) rfl (by simp [pz]) (a_sel1 rfl ?_)
  intro b1 hb1
  refine a_plain px ?_
  refine a_plain py ?_
  refine a_plain pz ?_
  have lo1 : b0 < u1.heap.size := h1.low (by simp [kb41_0])
  have lo2 : b0 < u2.heap.size := h2.low (by simp [kb41_0])
  have lo3 : b0 < u3.heap.size := h3.low (by simp [kb41_0])
  have b01 : b0 < b1 := by have := s3.size; omega
  have unx : Un 34 X.w0.heap.size w3 [b0, b1] x 0 := ⟨own_mono (own_stp0 (own_stp0 ox su2) su3) h1.sz0, fun q h => by have := (ox.lt q h); have := su2.size; have := su3.size; simp; omega⟩
  have uny : Un 34 X.w0.heap.size w3 [b0, b1] y 1 := ⟨own_mono (own_stp0 oy su3) h2.sz0, fun q h => by have := (oy.lt q h); have := su3.size; simp; omega⟩
  have unz : Un 34 X.w0.heap.size w3 [b0, b1] z 2 := ⟨own_mono oz h3.sz0, fun q h => by have := (oz.lt q h); simp; omega⟩
  refine ⟨fun a w => ∃ (k B : Nat) (g h : Value) (vs us : List Value), a = [J k, x, y, z, g, h] ∧ k ≤ n ∧ b1 < B ∧ X.w0.heap.size ≤ B ∧ B ≤ w.heap.size ∧ vs.length = k ∧ us.length = k ∧
      w.ownsRow B 47 1 g k vs ∧ w.ownsRow B 47 1 h k us ∧ (∀ q, g.ownBlock = some q → h.ownBlock ≠ some q) ∧
      Un 34 X.w0.heap.size w [b0, b1] x 0 ∧ Un 34 X.w0.heap.size w [b0, b1] y 1 ∧ Un 34 X.w0.heap.size w [b0, b1] z 2 ∧ Uns 34 X.w0.heap.size w [b0, b1] vs (3 + ·) ∧ Uns 34 X.w0.heap.size w [b0, b1] us (3 + n + ·) ∧ Kn X w,
    fun a _ => match a with | i :: _ => n - intNat i | _ => 0, fun w hw => ?_, ?_⟩
  · have hm : ∀ {v : Value} (g : Nat), v.ownBlock = some g → g ∈ [b1] → g ∈ [b0, b1] := fun g _ h => by simp at h; simp [h]
    exact ⟨0, w.heap.size, _, _, [], [], rfl, Nat.zero_le _, hw.low (by simp [kb41_1]), hw.sz0, Nat.le_refl _, rfl, rfl, World.ownsRow_nil _ _ _ _, World.ownsRow_nil _ _ _ _, (fun _ h => by cases h),
      unx.stp hw.stp hm, uny.stp hw.stp hm, unz.stp hw.stp hm, (fun i v h => by simp at h), (fun i v h => by simp at h), hw.kn⟩
  rintro _ _ _ _ g h w ⟨k, B, _, _, vs, us, he, hk, hB, hB0, hBw, lv, lu, og, oh, hgh, ux, uy, uz, uvs, uus, hkn⟩
  simp only [List.cons.injEq, and_true] at he
  obtain ⟨rfl, rfl, rfl, rfl, rfl, rfl⟩ := he
  rw [ask_lssN]
  refine a_ifD (fun hlt => ?_) fun hge => ?_
  · refine one 4 k _ _ _ _ (by decide) (by decide) (by omega) fun v4 u4 w4 h4 k4 s4 su4 o4 => ?_
    have e4 : plc 4 k n = 3 + k := by simp [plc]
    rw [e4] at o4
    have l4 : b1 < u4.heap.size := by have := h4.size; omega
    have un4 : Un 34 X.w0.heap.size w4 [b0, b1] v4 (3 + vs.length) := ⟨by rw [lv]; exact own_mono o4 h4.sz0, fun q h => by have := (o4.lt q h).1; simp; omega⟩
    replace og := own_stp0 og su4
    have oh4 := own_stp0 oh su4
    replace ux := ux.stp0 su4; replace uy := uy.stp0 su4; replace uz := uz.stp0 su4
    replace uvs := (uvs.stp0 su4).push un4
    replace uus := uus.stp0 su4
    have p4 := own_one o4
    have s4w := su4.size
    refine a_push #[v4] hX hP tyFree rfl rfl (by decide) (by decide) (by decide) (by kernel_rfl) rfl (by simp [p4]) rfl hB0 (by omega) og (by simp only [maxLen]; omega) (by omega) fun g2 w5 k5 s5 og5 hbl5 => ?_
    have p5 := own_one og5
    refine a_plain p5 ?_
    have ap : ∀ {v : Value} {j : Nat}, Un 34 X.w0.heap.size w4 [b0, b1] v j → ∀ q, v.ownBlock = some q → q ∈ g.ownBlock.toList → q ∈ [b0, b1] := fun hu q hq hm => absurd hm (own_apart hu.1 og rfl q hq)
    replace ux := ux.stp s5 (ap ux); replace uy := uy.stp s5 (ap uy); replace uz := uz.stp s5 (ap uz)
    have uvs5 := uvs.stp s5 (uvs.apart og rfl)
    have uus5 := uus.stp s5 (uus.apart og rfl)
    have oh5 := own_stp oh4 s5 fun q hq hm => hgh q (by simpa using hm) hq
    have hgh5 : ∀ q, g2.ownBlock = some q → h.ownBlock ≠ some q := fun q hq hh => by
      rcases hbl5 with hb | ⟨r, hb, hr⟩
      · rw [hb] at hq; exact hgh q hq hh
      · rw [hb] at hq; cases hq
        have := (oh4.lt _ hh).2
        omega
    refine one 5 k _ _ _ _ (by decide) (by decide) (by omega) fun v6 u6 w6 h6 k6 s6 su6 o6 => ?_
    have e6 : plc 5 k n = 3 + n + k := by simp [plc]
    rw [e6] at o6
    have hm : ∀ {v : Value} (g : Nat), v.ownBlock = some g → g ∈ [b1] → g ∈ [b0, b1] := fun g _ h => by simp at h; simp [h]
    have s5w := s5.size
    have s6w := su6.size
    have un6 : Un 34 X.w0.heap.size w6 [b0, b1] v6 (3 + n + us.length) := ⟨by rw [lu]; exact own_mono o6 h6.sz0, fun q h => by have := (o6.lt q h).1; have := h6.size; simp; omega⟩
    have hBb : b1 < B := hB
    have og6 := own_stp og5 su6 (off_own og5 (all1 hBb))
    have oh6 := own_stp oh5 su6 (off_own oh5 (all1 hBb))
    replace ux := ux.stp su6 hm; replace uy := uy.stp su6 hm; replace uz := uz.stp su6 hm
    have uvs6 := uvs5.stp su6 fun _ _ g hg h => hm g hg h
    have uus6 := (uus5.stp su6 fun _ _ g hg h => hm g hg h).push un6
    have p6 := own_one o6
    refine a_push #[v6] hX hP tyFree rfl rfl (by decide) (by decide) (by decide) (by kernel_rfl) rfl (by simp [p6]) rfl hB0 (by omega) oh6 (by simp only [maxLen]; omega) (by omega) fun g3 w7 k7 s7 oh7 hbl7 => ?_
    refine a_plain (own_one oh7) ?_
    rw [ask_succ (by omega)]
    intro w8 hw8
    have ap7 : ∀ {v : Value} {j : Nat}, Un 34 X.w0.heap.size w6 [b0, b1] v j → ∀ q, v.ownBlock = some q → q ∈ h.ownBlock.toList → q ∈ [b0, b1] := fun hu q hq hm => absurd hm (own_apart hu.1 oh6 rfl q hq)
    have s8w := hw8.size
    have s7w := s7.size
    have og7 := own_stp og6 s7 fun q hq hm => hgh5 q hq (by simpa using hm)
    have hgh7 : ∀ q, g2.ownBlock = some q → g3.ownBlock ≠ some q := fun q hq hh => by
      rcases hbl7 with hb | ⟨r, hb, hr⟩
      · rw [hb] at hh; exact hgh5 q hq hh
      · rw [hb] at hh; cases hh
        have := (og6.lt _ hq).2
        omega
    refine ⟨⟨k + 1, B, g2, g3, vs ++ [v4], us ++ [v6], rfl, hlt, hB, hB0, by omega, by simp [lv], by simp [lu], own_stp og7 hw8.stp (off_own og7 (all1 hBb)), own_stp oh7 hw8.stp (off_own oh7 (all1 hBb)), hgh7,
      (ux.stp s7 (ap7 ux)).stp hw8.stp hm, (uy.stp s7 (ap7 uy)).stp hw8.stp hm, (uz.stp s7 (ap7 uz)).stp hw8.stp hm,
      (uvs6.stp s7 (uvs6.apart oh6 rfl)).stp hw8.stp (fun _ _ g hg h => hm g hg h), (uus6.stp s7 (uus6.apart oh6 rfl)).stp hw8.stp (fun _ _ g hg h => hm g hg h), hw8.kn⟩, by simp [intNat]; omega⟩
  · obtain rfl : k = n := by omega
    refine a_plain (own_one ux.1) ?_
    refine a_plain (own_one uy.1) ?_
    refine a_plain (own_one uz.1) ?_
    refine a_plain (own_one og) ?_
    refine a_plain (own_one oh) ?_
    have hm : ∀ {v : Value} (g : Nat), v.ownBlock = some g → g ∈ [b0] → g ∈ [b0, b1] := fun g _ h => by simp at h; simp [h]
    have hb0B : b0 < B := by omega
    exact hR _ _ _ _ fun w9 hw9 => ⟨_, _, _, _, _, vs, us, rfl, (own_slAt og).stp hw9.stp (off_own og (all1 hb0B)), (own_slAt oh).stp hw9.stp (off_own oh (all1 hb0B)), (ux.stp hw9.stp hm).1, (uy.stp hw9.stp hm).1, (uz.stp hw9.stp hm).1, lv, lu,
      fun i v hv => (uvs.stp hw9.stp (fun _ _ g hg h => hm g hg h) i v hv).1, fun i v hv => (uus.stp hw9.stp (fun _ _ g hg h => hm g hg h) i v hv).1, fun q hq => Nat.le_trans hB0 (og.lt q hq).1, fun q hq => Nat.le_trans hB0 (oh.lt q hq).1⟩
end Go.Vc
