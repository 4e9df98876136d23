import Derived.Test.YtoakfcihcmmihaaDoorDGen
/-
  Sets of generators: the document's set, parts.
-/
namespace Go.Vc
open Go Go.Proofs Go.RowKit

def ann19 : Ann := ⟨[(3, ([6], [2])), (7, ([7], [2]))], [59], 70, [], [], none, [], []⟩
def kb19_0 (b0 b1 b2 : Nat) (x3 x4 x5 x6 x7 x8 x9 x10 x11 x12 x13 x14 x15 x16 x21 : Value) : List KB := [⟨b0, true, 61, #[x3, x4, x5, x6, x7, x8, x9, x10, x11, x12, x13, x14, x15, x16]⟩, ⟨b1, true, 44, #[(J 0), (J 0), (J 0), (J 0), (J 0), (J 0), (J 0), (J 0), (J 0), (J 0), (J 0), (J 0), (J 0), (J 0), (J 0), (J 0), (J 0), (J 0), (J 0), (J 0), (J 0), (J 0), (U 0), (U 0), (U 0), (U 0), (.slice none 0 0), (J 0), (J 0), (J 0), (J 0), (J 0), (J 0), (J 0), (J 0), (J 0), (J 0), (J 0), (J 0), (J 0), (J 0), (J 0), (J 0), (J 0), (J 0), (J 0), (J 0), (J 0), (U 0), (U 0), (U 0), (U 0), (.slice none 0 0), (J 0), (J 0), (J 0), (J 0), (J 0), (J 0), (J 0), (J 0), (J 0), (J 0), (J 0), (J 0), (J 0), (J 0), (J 0), (J 0), (J 0), (J 0), (J 0), (J 0), (J 0), (U 0), (U 0), (U 0), (U 0), (.slice none 0 0), (.slice none 0 0), (.slice none 0 0)]⟩, ⟨b2, true, 44, (aggArr x21)⟩]
def kb19_1 (b0 b1 b2 : Nat) (x3 x4 x5 x6 x7 x8 x9 x10 x11 x12 x13 x14 x15 x16 x23 : Value) : List KB := [⟨b0, true, 61, #[x3, x4, x5, x6, x7, x8, x9, x10, x11, x12, x13, x14, x15, x16]⟩, ⟨b1, true, 44, #[(J 0), (J 0), (J 0), (J 0), (J 0), (J 0), (J 0), (J 0), (J 0), (J 0), (J 0), (J 0), (J 0), (J 0), (J 0), (J 0), (J 0), (J 0), (J 0), (J 0), (J 0), (J 0), (U 0), (U 0), (U 0), (U 0), (.slice none 0 0), (J 0), (J 0), (J 0), (J 0), (J 0), (J 0), (J 0), (J 0), (J 0), (J 0), (J 0), (J 0), (J 0), (J 0), (J 0), (J 0), (J 0), (J 0), (J 0), (J 0), (J 0), (U 0), (U 0), (U 0), (U 0), (.slice none 0 0), (J 0), (J 0), (J 0), (J 0), (J 0), (J 0), (J 0), (J 0), (J 0), (J 0), (J 0), (J 0), (J 0), (J 0), (J 0), (J 0), (J 0), (J 0), (J 0), (J 0), (J 0), (U 0), (U 0), (U 0), (U 0), (.slice none 0 0), (.slice none 0 0), (.slice none 0 0)]⟩, ⟨b2, true, 44, (aggArr x23)⟩]
def kb19_2 (b0 b1 b2 : Nat) (x3 x4 x5 x6 x7 x8 x9 x10 x11 x12 x13 x14 x15 x16 x28 : Value) : List KB := [⟨b0, true, 61, #[x3, x4, x5, x6, x7, x8, x9, x10, x11, x12, x13, x14, x15, x16]⟩, ⟨b1, true, 44, #[(J 0), (J 0), (J 0), (J 0), (J 0), (J 0), (J 0), (J 0), (J 0), (J 0), (J 0), (J 0), (J 0), (J 0), (J 0), (J 0), (J 0), (J 0), (J 0), (J 0), (J 0), (J 0), (U 0), (U 0), (U 0), (U 0), (.slice none 0 0), (J 0), (J 0), (J 0), (J 0), (J 0), (J 0), (J 0), (J 0), (J 0), (J 0), (J 0), (J 0), (J 0), (J 0), (J 0), (J 0), (J 0), (J 0), (J 0), (J 0), (J 0), (U 0), (U 0), (U 0), (U 0), (.slice none 0 0), (J 0), (J 0), (J 0), (J 0), (J 0), (J 0), (J 0), (J 0), (J 0), (J 0), (J 0), (J 0), (J 0), (J 0), (J 0), (J 0), (J 0), (J 0), (J 0), (J 0), (J 0), (U 0), (U 0), (U 0), (U 0), (.slice none 0 0), (.slice none 0 0), (.slice none 0 0)]⟩, ⟨b2, true, 44, (aggArr x28)⟩]
theorem vc19 (X : Ctx) (β : Nat → Nat) (x0 : Value) : (run Tryd.prog ann19 19 [.x (.v 0), .x (.c (J 2))] [] [] 2).den X (env0 [x0] X.w0) 2 β 0 (fun _ _ _ => False) = (
  Ask (rAgg 14 x0) fun x2 =>
  Ask (rSel (aggArr x2) 0 1 false) fun x3 =>
  Ask (rSel (aggArr x2) 1 1 false) fun x4 =>
  Ask (rSel (aggArr x2) 2 1 false) fun x5 =>
  Ask (rSel (aggArr x2) 3 1 false) fun x6 =>
  Ask (rSel (aggArr x2) 4 1 false) fun x7 =>
  Ask (rSel (aggArr x2) 5 1 false) fun x8 =>
  Ask (rSel (aggArr x2) 6 1 false) fun x9 =>
  Ask (rSel (aggArr x2) 7 1 false) fun x10 =>
  Ask (rSel (aggArr x2) 8 1 false) fun x11 =>
  Ask (rSel (aggArr x2) 9 1 false) fun x12 =>
  Ask (rSel (aggArr x2) 10 1 false) fun x13 =>
  Ask (rSel (aggArr x2) 11 1 false) fun x14 =>
  Ask (rSel (aggArr x2) 12 1 false) fun x15 =>
  Ask (rSel (aggArr x2) 13 1 false) fun x16 =>
  AskNew X.w0 fun b0 =>
  AskNew X.w0 fun b1 =>
  AskF X 59 [(J 2), (.agg #[x3, x4, x5, x6])] fun x17 =>
  AskF X 59 [(J 2), (.agg #[x7, x8, x9, x10])] fun x18 =>
  AskF X 59 [(J 2), (.agg #[x11, x12, x13, x14])] fun x19 =>
  Ask (rBld X.P 44 #[(0, (J 2)), (1, x17), (2, x18), (3, x19)]) fun x20 =>
  AskNew X.w0 fun b2 =>
  Ask (rAgg 81 x20) fun x21 =>
  ∃ (I0 : List Value → World → Prop) (μ0 : List Value → World → Nat), (∀ w, KnownV X X.w0 [b2] (kb19_0 b0 b1 b2 x3 x4 x5 x6 x7 x8 x9 x10 x11 x12 x13 x14 x15 x16 x21) w → I0 [(J 0), x21] w) ∧ ∀ x22 x23 w24, I0 [x22, x23] w24 →
    Ask (rLen X.P 59 x15) fun x25 =>
    Ask (rBin X.P .lss 3 false false x22 x25) fun x26 =>
    (∃ t, x26 = .bool t) ∧ (x26 = .bool true →
      Ask (rSel (aggArr x23) 79 1 false) fun x27 =>
      Ask (rIad X.P 59 x15 x22) fun x28 =>
      Ask (rLoad X w24 [] 24 x28) fun x29 =>
      AskF X 59 [(J 2), x29] fun x30 =>
      AskO X w24 [] (kb19_1 b0 b1 b2 x3 x4 x5 x6 x7 x8 x9 x10 x11 x12 x13 x14 x15 x16 x23) false (Go.Op.buildSlice 42 1 #[(0, Go.Operand.tmp 37)]) 42 [(37, x30)] fun x31 w31 =>
      AskO X w31 [] (kb19_1 b0 b1 b2 x3 x4 x5 x6 x7 x8 x9 x10 x11 x12 x13 x14 x15 x16 x23) true (appOp (.tmp 30) (.tmp 38) 42) 42 [(30, x27), (38, x31)] fun x32 w32 =>
      Ask (rUpd (aggArr x23) 79 1 x32) fun x33 =>
      Ask (rBin X.P .add 3 false true x22 (J 1)) fun x34 =>
      Again X w32 [b2] [] fun w => I0 [x34, x33] w ∧ μ0 [x34, x33] w < μ0 [x22, x23] w24) ∧ (x26 = .bool false →
      ∃ (I0 : List Value → World → Prop) (μ0 : List Value → World → Nat), (∀ w, KnownV X w24 [] (kb19_1 b0 b1 b2 x3 x4 x5 x6 x7 x8 x9 x10 x11 x12 x13 x14 x15 x16 x23) w → I0 [(J 0), x23] w) ∧ ∀ x27 x28 w29, I0 [x27, x28] w29 →
        Ask (rLen X.P 59 x16) fun x30 =>
        Ask (rBin X.P .lss 3 false false x27 x30) fun x31 =>
        (∃ t, x31 = .bool t) ∧ (x31 = .bool true →
          Ask (rSel (aggArr x28) 80 1 false) fun x32 =>
          Ask (rIad X.P 59 x16 x27) fun x33 =>
          Ask (rLoad X w29 [] 24 x33) fun x34 =>
          AskF X 59 [(J 2), x34] fun x35 =>
          AskO X w29 [] (kb19_2 b0 b1 b2 x3 x4 x5 x6 x7 x8 x9 x10 x11 x12 x13 x14 x15 x16 x28) false (Go.Op.buildSlice 42 1 #[(0, Go.Operand.tmp 56)]) 42 [(56, x35)] fun x36 w36 =>
          AskO X w36 [] (kb19_2 b0 b1 b2 x3 x4 x5 x6 x7 x8 x9 x10 x11 x12 x13 x14 x15 x16 x28) true (appOp (.tmp 49) (.tmp 57) 42) 42 [(49, x32), (57, x36)] fun x37 w37 =>
          Ask (rUpd (aggArr x28) 80 1 x37) fun x38 =>
          Ask (rBin X.P .add 3 false true x27 (J 1)) fun x39 =>
          Again X w37 [b2] [] fun w => I0 [x39, x38] w ∧ μ0 [x39, x38] w < μ0 [x27, x28] w29) ∧ (x31 = .bool false →
          Ask (rAgg 81 x28) fun x32 =>
          Ret X w29 [b1] [] x32))) := by kernel_rfl
def cSetK : Cods ((Nat × Nat × Nat × List Nat × List Nat) × Unit) := ⟨fun w l p => ∃ v, l = [v, J 2] ∧ cSetL.rd w v p.1, fun w l p q ⟨v, e, h⟩ ⟨v', e', h'⟩ => by
  rw [e] at e'; cases e'
  exact Prod.ext (cSetL.inj _ _ _ _ h h') rfl⟩
def cRef : Contract := fnW cSetK (fun p _ => p.1.2.2.2.1.length ≤ mx ∧ p.1.2.2.2.2.length ≤ mx)
  (fun p _ v w' => cRSetL.rd w' v (p.1.1 % lN, p.1.2.1 % lN, p.1.2.2.1 % lN, lm p.1.2.2.2.1, lm p.1.2.2.2.2))
def Tref : Table := T0.add 59 cIts
theorem keepTref : AllKeep Tryd.prog GT Tref := keepT0.add keepsIts
theorem ok_lm (l : List Nat) : ∀ x ∈ lm l, okS x := fun x hx => by
  obtain ⟨y, _, rfl⟩ := List.mem_map.1 hx
  exact lm_lt y
theorem lm_take (l : List Nat) (k : Nat) (h : k < l.length) : (lm (l.take (k + 1))).flatMap encE = (lm (l.take k)).flatMap encE ++ encE (l[k] % lN) := by
  unfold lm
  rw [List.take_succ_eq_append_getElem h, List.map_append, List.flatMap_append]; simp
/-- One list of a document's set is set anew. -/
theorem ask_updG {K : Value → Prop} {b bl q : Nat} {g h x : Value} (hx : x.oneCell' = true) : Ask (rUpd (aggArr (RSetV b bl (encE q) g h)) 79 1 x) K = K (RSetV b bl (encE q) x h) := by
  refine ask_eq fun v => ?_
  have hc : x.cells = #[x] := by cases x <;> first | rfl | cases hx
  have e : RSetV b bl (encE q) x h = .agg (splice (aggArr (RSetV b bl (encE q) g h)) 79 x.cells.toList) := by rw [hc]; rfl
  unfold rUpd
  rw [e]
  exact ⟨fun h => h.2.2.2, fun h => ⟨by show 79 + 1 ≤ 81; omega, by rw [hc]; rfl, by rw [hc]; simp [hx], h⟩⟩
theorem ask_updH {K : Value → Prop} {b bl q : Nat} {g h x : Value} (hx : x.oneCell' = true) : Ask (rUpd (aggArr (RSetV b bl (encE q) g h)) 80 1 x) K = K (RSetV b bl (encE q) g x) := by
  refine ask_eq fun v => ?_
  have hc : x.cells = #[x] := by cases x <;> first | rfl | cases hx
  have e : RSetV b bl (encE q) g x = .agg (splice (aggArr (RSetV b bl (encE q) g h)) 80 x.cells.toList) := by rw [hc]; rfl
  unfold rUpd
  rw [e]
  exact ⟨fun h => h.2.2.2, fun h => ⟨by show 80 + 1 ≤ 81; omega, by rw [hc]; rfl, by rw [hc]; simp [hx], h⟩⟩
theorem ask_aggR {K : Value → Prop} {b bl q : Nat} {g h : Value} (hg : g.oneCell' = true) (hh : h.oneCell' = true) : Ask (rAgg 81 (RSetV b bl (encE q) g h)) K = K (RSetV b bl (encE q) g h) :=
  ask_agg rfl (by simp only [List.all_toArray, List.all_append, List.all_cons, List.all_nil, one_encE, hg, hh, oneJ2, Bool.and_true])
theorem all_kb3 {a b c d : Nat} {x y z : Nat} {v1 v2 v3 : Array Value} (h1 : (a != d) = true) (h2 : (b != d) = true) (h3 : (c != d) = true) : ([⟨x, true, a, v1⟩, ⟨y, true, b, v2⟩, ⟨z, true, c, v3⟩] : List KB).all (fun kb => kb.own && kb.ty != d) = true := by simp [h1, h2, h3]

theorem keepsRef : Keeps1 Tryd.prog GT 19 cRef := by
  refine keepsW (T := Tref) (A := ann19) hMix keepTref hGT (fun f hf => by
      simp only [ann19, List.mem_cons, List.not_mem_nil, or_false] at hf
      subst hf; intros; kernel_rfl) (fun f hf => by cases hf) fun args ⟨⟨b, bl, q, G, H⟩, _⟩ w0 hrd hpre _ => ?_
  obtain ⟨_, rfl, ⟨g, h, rfl, ob, obl, oq, hg, hh⟩⟩ := hrd
  dsimp only at hpre ob obl oq hg hh
  refine ⟨[.x (.v 0), .x (.c (J 2))], [], [], 2, env0 [SetV b bl q g h] w0, fun b => b, 0, rfl, rfl, fun X hX => mem_none hX rfl, fun X hP hS hw hX hR => ?_⟩
  subst hw; dsimp only at hR
  replace hg : Ls encS okS X.w0 g G := hg
  replace hh : Ls encS okS X.w0 h H := hh
  have og := hg.2; have oh := hh.2
  replace hg := hg.1; replace hh := hh.1
  rw [vc19 X]
  refine a_agg rfl (by simp [one_encS, slAt_one hg, slAt_one hh]) ?_
  iterate 14 refine a_sel1 rfl ?_
  intro b0 _ b1 _
  have fold : ∀ n, Value.agg #[U (lb n 0), U (lb n 1), U (lb n 2), U (lb n 3)] = S n := fun _ => rfl
  rw [fold, fold, fold]
  refine call_PE hS (T := Tref) (f := 59) rfl b ob ?_
  refine call_PE hS (T := Tref) (f := 59) rfl bl obl ?_
  refine call_PE hS (T := Tref) (f := 59) rfl q oq ?_
  refine a_bld ([J 2] ++ encE (b % lN) ++ encE (bl % lN) ++ encE (q % lN) ++ [Value.slice none 0 0, Value.slice none 0 0]).toArray hP (by kernel_rfl) ?_
  intro b2 _
  have foldR : Value.agg ([J 2] ++ encE (b % lN) ++ encE (bl % lN) ++ encE (q % lN) ++ [Value.slice none 0 0, Value.slice none 0 0]).toArray = RSetV (b % lN) (bl % lN) (encE (q % lN)) (.slice none 0 0) (.slice none 0 0) := rfl
  rw [foldR, ask_aggR rfl rfl]
  refine ⟨fun a w => ∃ (k B : Nat) (o : Value), a = [J k, RSetV (b % lN) (bl % lN) (encE (q % lN)) o (.slice none 0 0)] ∧ k ≤ G.length ∧ b1 < B ∧ b2 < B ∧ X.w0.heap.size ≤ B ∧ B ≤ w.heap.size ∧ w.ownsRow B 39 26 o k ((lm (G.take k)).flatMap encE) ∧ Kn X w, fun a _ => match a with | [i, _] => G.length - intNat i | _ => 0,
    fun w hw => ⟨0, w.heap.size, _, rfl, Nat.zero_le _, hw.low (by simp [kb19_0]), hw.low (by simp [kb19_0]), hw.sz0, Nat.le_refl _, World.ownsRow_nil _ _ _ _, hw.kn⟩, ?_⟩
  rintro _ _ w ⟨k, B, o, he, hk, hB1, hB2, hB0, hB, ho, hkn⟩
  simp only [List.cons.injEq, and_true] at he
  obtain ⟨rfl, rfl⟩ := he
  refine a_len hP tyS hg ?_
  rw [ask_lssN]
  refine a_ifD (fun hlt => ?_) fun hge => ?_
  · have hl' := hg.stp0 (hkn.stp0 hX)
    have hka : G[k]? = some G[k] := List.getElem?_eq_getElem hlt
    refine a_sel1 (v := o) rfl ?_
    refine a_iadN hP tyS hl' hlt ?_
    refine a_load_agg (cs := encS G[k]) hkn hl' (by rw [hP]; exact aggS) (by rw [hP]; exact szS) (fun _ _ => List.not_mem_nil) (by simp [encS]) (flat_at encS_len G k _ hka) ?_
    refine call_PE hS (T := Tref) (f := 59) rfl G[k] (og _ (List.getElem_mem _)) ?_
    refine a_push (encE (G[k] % lN)).toArray hX hP tyE rfl rfl (by decide) (by decide) (by decide) (by kernel_rfl) rfl (one_encE' _) (by rfl) hB0 hB ho (by simp only [maxLen, mx] at *; omega) (by simp only [mx] at *; omega) fun o' w' k' s' ho' _ => ?_
    rw [ask_updG (own_one ho'), ask_succ (by simp only [mx] at *; omega)]
    intro w2 hw2
    refine ⟨⟨k + 1, B, o', rfl, hlt, hB1, hB2, hB0, Nat.le_trans hB (Nat.le_trans s'.size hw2.size), ?_, hw2.kn⟩, by simp [intNat]; omega⟩
    rw [lm_take G k hlt]
    exact own_stp ho' hw2.stp (off_own ho' (all1 hB2))
  · obtain rfl : k = G.length := by omega
    rw [List.take_of_length_le (Nat.le_refl _)] at ho
    refine ⟨fun a w => ∃ (k B' : Nat) (o' : Value), a = [J k, RSetV (b % lN) (bl % lN) (encE (q % lN)) o o'] ∧ k ≤ H.length ∧ B ≤ B' ∧ B' ≤ w.heap.size ∧ (∀ x, o.ownBlock = some x → x < B') ∧ w.ownsRow B 39 26 o G.length ((lm G).flatMap encE) ∧ w.ownsRow B' 39 26 o' k ((lm (H.take k)).flatMap encE) ∧ Kn X w, fun a _ => match a with | [i, _] => H.length - intNat i | _ => 0,
      fun w2 hw2 => ⟨0, w2.heap.size, _, rfl, Nat.zero_le _, Nat.le_trans hB hw2.size, Nat.le_refl _, fun x hx => ((own_stp0 ho hw2.stp).lt x hx).2, own_stp0 ho hw2.stp, World.ownsRow_nil _ _ _ _, hw2.kn⟩, ?_⟩
    rintro _ _ w2 ⟨k, B', o', he, hk, hBB, hB', hlo, ho1, ho2, hkn2⟩
    simp only [List.cons.injEq, and_true] at he
    obtain ⟨rfl, rfl⟩ := he
    have oo := own_one ho1; have oo' := own_one ho2
    refine a_len hP tyS hh ?_
    rw [ask_lssN]
    refine a_ifD (fun hlt => ?_) fun hge => ?_
    · have hl' := hh.stp0 (hkn2.stp0 hX)
      have hka : H[k]? = some H[k] := List.getElem?_eq_getElem hlt
      refine a_sel1 (v := o') rfl ?_
      refine a_iadN hP tyS hl' hlt ?_
      refine a_load_agg (cs := encS H[k]) hkn2 hl' (by rw [hP]; exact aggS) (by rw [hP]; exact szS) (fun _ _ => List.not_mem_nil) (by simp [encS]) (flat_at encS_len H k _ hka) ?_
      refine call_PE hS (T := Tref) (f := 59) rfl H[k] (oh _ (List.getElem_mem _)) ?_
      refine a_push (encE (H[k] % lN)).toArray hX hP tyE rfl rfl (by decide) (by decide) (by decide) (by kernel_rfl) rfl (one_encE' _) (by rfl) (Nat.le_trans hB0 hBB) hB' ho2 (by simp only [maxLen, mx] at *; omega) (by simp only [mx] at *; omega) fun o2 w' k' s' ho' _ => ?_
      rw [ask_updH (own_one ho'), ask_succ (by simp only [mx] at *; omega)]
      intro w3 hw3
      have apart : ∀ x, o.ownBlock = some x → x ∉ o'.ownBlock.toList := fun x hx hm => by
        have h1 := hlo x hx
        have h2 := (ho2.lt x (by simpa using hm)).1
        omega
      refine ⟨⟨k + 1, B', o2, rfl, hlt, hBB, Nat.le_trans hB' (Nat.le_trans s'.size hw3.size), hlo, own_stp (own_stp ho1 s' apart) hw3.stp (off_own ho1 (all1 hB2)), ?_, hw3.kn⟩, by simp [intNat]; omega⟩
      rw [lm_take H k hlt]
      exact own_stp ho' hw3.stp (off_own ho' (all1 (by omega)))
    · obtain rfl : k = H.length := by omega
      rw [List.take_of_length_le (Nat.le_refl _)] at ho2
      rw [ask_aggR oo oo']
      refine hR _ _ _ _ fun w3 hw3 => ?_
      refine ⟨o, o', rfl, lm_lt b, lm_lt bl, lm_lt q, ⟨?_, ok_lm G⟩, ⟨?_, ok_lm H⟩⟩
      · have := own_at ho1 (all1 hB1) hw3.stp
        simpa [lm] using this
      · have := own_at ho2 (all1 (show b1 < B' by omega)) hw3.stp
        simpa [lm] using this
end Go.Vc

/-
  Parts of sets, all generators; the document's.
-/
namespace Go.Vc
open Go Go.Proofs Go.RowKit

def partCode (lg lh : Nat) (a n : Int) : Nat := if a < 0 ∨ n < 0 then 1 else if a > min lg lh ∨ n > (min lg lh : Nat) - a then 2 else 0

def ann20 : Ann := ⟨[], [], 70, [(60, false)], [], none, [], []⟩
def kb20_0 (b0 b1 : Nat) (x5 x6 x7 x8 x9 x10 x11 x12 x13 x14 x15 x16 x17 x18 : Value) : List KB := [⟨b0, true, 29, #[x5, x6, x7, x8, x9, x10, x11, x12, x13, x14, x15, x16, x17, x18]⟩, ⟨b1, true, 29, #[(U 0), (U 0), (U 0), (U 0), (U 0), (U 0), (U 0), (U 0), (U 0), (U 0), (U 0), (U 0), (.slice none 0 0), (.slice none 0 0)]⟩]
theorem vc20 (X : Ctx) (β : Nat → Nat) (x0 x1 x2 : Value) : (run Tryd.prog ann20 20 [.x (.v 0), .x (.v 1), .x (.v 2)] [] [] 4).den X (env0 [x0, x1, x2] X.w0) 4 β 0 (fun _ _ _ => False) = (
  Ask (rAgg 14 x0) fun x4 =>
  Ask (rSel (aggArr x4) 0 1 false) fun x5 =>
  Ask (rSel (aggArr x4) 1 1 false) fun x6 =>
  Ask (rSel (aggArr x4) 2 1 false) fun x7 =>
  Ask (rSel (aggArr x4) 3 1 false) fun x8 =>
  Ask (rSel (aggArr x4) 4 1 false) fun x9 =>
  Ask (rSel (aggArr x4) 5 1 false) fun x10 =>
  Ask (rSel (aggArr x4) 6 1 false) fun x11 =>
  Ask (rSel (aggArr x4) 7 1 false) fun x12 =>
  Ask (rSel (aggArr x4) 8 1 false) fun x13 =>
  Ask (rSel (aggArr x4) 9 1 false) fun x14 =>
  Ask (rSel (aggArr x4) 10 1 false) fun x15 =>
  Ask (rSel (aggArr x4) 11 1 false) fun x16 =>
  Ask (rSel (aggArr x4) 12 1 false) fun x17 =>
  Ask (rSel (aggArr x4) 13 1 false) fun x18 =>
  AskNew X.w0 fun b0 =>
  AskNew X.w0 fun b1 =>
  Ask (rBin X.P .lss 3 false true x1 (J 0)) fun x19 =>
  AskG [(x19, false)] (rBin X.P .lss 3 false true x2 (J 0)) fun x20 =>
  Ask (rPick x19 (.bool true) x20) fun x21 =>
  (∃ t, x21 = .bool t) ∧ (x21 = .bool true →
    Ret X X.w0 [b1] [] (.tuple #[(.agg #[(U 0), (U 0), (U 0), (U 0), (U 0), (U 0), (U 0), (U 0), (U 0), (U 0), (U 0), (U 0), (.slice none 0 0), (.slice none 0 0)]), (J 1)])) ∧ (x21 = .bool false →
    Ask (rLen X.P 27 x17) fun x22 =>
    Ask (rLen X.P 27 x18) fun x23 =>
    Ask (rGen X.P (Go.Op.call { callee := Go.Callee.builtin Go.Builtin.min, args := #[Go.Operand.tmp 18, Go.Operand.tmp 21], argTypes := #[3, 3] }) 3 [(18, x22), (21, x23)]) fun x24 =>
    Ask (rBin X.P .gtr 3 false false x1 x24) fun x25 =>
    AskG [(x25, false)] (rBin X.P .sub 3 false false x24 x1) fun x26 =>
    AskG [(x25, false)] (rBin X.P .gtr 3 false false x2 x26) fun x27 =>
    Ask (rPick x25 (.bool true) x27) fun x28 =>
    (∃ t, x28 = .bool t) ∧ (x28 = .bool true →
      Ret X X.w0 [b1] [] (.tuple #[(.agg #[(U 0), (U 0), (U 0), (U 0), (U 0), (U 0), (U 0), (U 0), (U 0), (U 0), (U 0), (U 0), (.slice none 0 0), (.slice none 0 0)]), (J 2)])) ∧ (x28 = .bool false →
      Ask (rBin X.P .add 3 false false x1 x2) fun x29 =>
      Ask (rSlc X.P 27 x17 (some x1) (some x29) none) fun x30 =>
      AskW X X.w0 [] (kb20_0 b0 b1 x5 x6 x7 x8 x9 x10 x11 x12 x13 x14 x15 x16 x17 x18) false 60 [x30] fun x31 w31 =>
      Ask (rBin X.P .add 3 false false x1 x2) fun x32 =>
      Ask (rSlc X.P 27 x18 (some x1) (some x32) none) fun x33 =>
      AskW X w31 [] (kb20_0 b0 b1 x5 x6 x7 x8 x9 x10 x11 x12 x13 x14 x15 x16 x17 x18) false 60 [x33] fun x34 w34 =>
      Ask (rPlain x31) fun x35 =>
      Ask (rPlain x34) fun x36 =>
      Ask (rPlain x5) fun x37 =>
      Ask (rPlain x6) fun x38 =>
      Ask (rPlain x7) fun x39 =>
      Ask (rPlain x8) fun x40 =>
      Ask (rPlain x9) fun x41 =>
      Ask (rPlain x10) fun x42 =>
      Ask (rPlain x11) fun x43 =>
      Ask (rPlain x12) fun x44 =>
      Ask (rPlain x13) fun x45 =>
      Ask (rPlain x14) fun x46 =>
      Ask (rPlain x15) fun x47 =>
      Ask (rPlain x16) fun x48 =>
      Ask (rPlain x35) fun x49 =>
      Ask (rPlain x36) fun x50 =>
      Ret X w34 [b1, b0, b0] [] (.tuple #[(.agg #[x37, x38, x39, x40, x41, x42, x43, x44, x45, x46, x47, x48, x49, x50]), (J 0)])))) := by kernel_rfl
def cPart : Contract := fnW (Cods.cons cSetL (Cods.cons cI (Cods.cons cI Cods.nil))) (fun p _ => p.1.2.2.2.1.length ≤ mx ∧ p.1.2.2.2.2.length ≤ mx)
  (fun p _ v w' => (partCode p.1.2.2.2.1.length p.1.2.2.2.2.length p.2.1 p.2.2.1 ≠ 0 → v = .tuple #[SetV 0 0 0 (.slice none 0 0) (.slice none 0 0), J (partCode p.1.2.2.2.1.length p.1.2.2.2.2.length p.2.1 p.2.2.1)]) ∧
    (partCode p.1.2.2.2.1.length p.1.2.2.2.2.length p.2.1 p.2.2.1 = 0 → ∃ x, v = .tuple #[x, J 0] ∧ cSetL.rd w' x (p.1.1, p.1.2.1, p.1.2.2.1, (p.1.2.2.2.1.drop p.2.1.toNat).take p.2.2.1.toNat, (p.1.2.2.2.2.drop p.2.1.toNat).take p.2.2.1.toNat)))
def Tpt : Table := T0.add 60 cCopied
theorem keepTpt : AllKeep Tryd.prog GT Tpt := keepT0.add keepsCopied
theorem flat_drop {α : Type} {enc : α → List Value} {s : Nat} (hlen : ∀ x, (enc x).length = s) (l : List α) (k : Nat) : (l.flatMap enc).drop (k * s) = (l.drop k).flatMap enc := by
  induction l generalizing k with
  | nil => simp
  | cons x r ih =>
    cases k with
    | zero => simp
    | succ k => rw [List.flatMap_cons, List.drop_append, hlen, Nat.succ_mul, Nat.add_sub_cancel, ih, List.drop_of_length_le (by rw [hlen]; omega)]; simp
theorem flat_takes {α : Type} {enc : α → List Value} {s : Nat} (hlen : ∀ x, (enc x).length = s) (l : List α) (k : Nat) : (l.flatMap enc).take (k * s) = (l.take k).flatMap enc := by
  induction l generalizing k with
  | nil => simp
  | cons x r ih =>
    cases k with
    | zero => simp
    | succ k => rw [List.flatMap_cons, List.take_append, hlen, Nat.succ_mul, Nat.add_sub_cancel, ih, List.take_of_length_le (by rw [hlen]; omega)]; simp
/-- A part of a list. -/
theorem ls_sub {α : Type} {enc : α → List Value} {ok : α → Prop} {s : Nat} (hlen : ∀ x, (enc x).length = s) {w : World} {v : Value} {l : List α} (h : Ls enc ok w v l) {a n : Nat} (hn : a + n ≤ l.length) : Ls enc ok w (SubV v a (a + n) s) ((l.drop a).take n) := by
  have e : ((l.drop a).take n).length = n := by rw [List.length_take, List.length_drop]; omega
  refine ⟨?_, fun x hx => h.2 x (List.mem_of_mem_drop (List.mem_of_mem_take hx))⟩
  have := slAt_sub (s := s) h.1 (Nat.le_add_right a n) hn
  rw [Nat.add_sub_cancel_left, flat_drop hlen, flat_takes hlen] at this
  rw [e]; exact this
theorem own_ls {w : World} {base e : Nat} {v : Value} {l : List Nat} (h : w.ownsRow base e 4 v l.length (l.flatMap encS)) (ok : ∀ x ∈ l, okS x) : cLS.rd w v l := ⟨own_slAt h, ok⟩

theorem keepsPart : Keeps1 Tryd.prog GT 20 cPart := by
  refine keepsW (T := Tpt) (A := ann20) hMix keepTpt hGT (fun f hf => by cases hf) (fun f hf => by
      simp only [ann20, List.mem_cons, List.not_mem_nil, or_false] at hf
      subst hf; intros; kernel_rfl) fun args ⟨⟨b, bl, q, G, H⟩, a, n, _⟩ w0 hrd hpre _ => ?_
  obtain ⟨_, _, rfl, ⟨g, h, rfl, ob, obl, oq, hg, hh⟩, _, _, rfl, rfl, _, _, rfl, rfl, rfl⟩ := hrd
  dsimp only at hpre ob obl oq hg hh
  refine ⟨[.x (.v 0), .x (.v 1), .x (.v 2)], [], [], 4, env0 [SetV b bl q g h, .int .i64 a, .int .i64 n] w0, fun b => b, 0, rfl, rfl, fun X hX => mem_none hX rfl, fun X hP hS hw hX hR => ?_⟩
  subst hw; dsimp only at hR
  replace hg : Ls encS okS X.w0 g G := hg
  replace hh : Ls encS okS X.w0 h H := hh
  rw [vc20 X]
  refine a_agg rfl (by simp [one_encS, slAt_one hg.1, slAt_one hh.1]) ?_
  iterate 14 refine a_sel1 rfl ?_
  intro b0 _ b1 _
  have bad : ∀ (c : Nat), partCode G.length H.length a n = c → c ≠ 0 → ∀ u ow bl, Ret X u ow bl (.tuple #[SetV 0 0 0 (.slice none 0 0) (.slice none 0 0), J c]) := fun c h1 h2 u ow bl => hR _ _ _ _ fun w _ => ⟨fun _ => by rw [h1], fun h => absurd (h1 ▸ h) h2⟩
  rw [ask_lss]
  by_cases ha : a < 0
  · rw [show decide (a < ((0 : Nat) : Int)) = true by simpa using ha]
    refine a_G_off (condsV1_not (by decide)) fun v => ?_
    rw [ask_pickT]
    exact a_if (fun _ => bad 1 (by simp [partCode, ha]) (by decide) _ _ _) fun h => by cases h
  rw [show decide (a < ((0 : Nat) : Int)) = false by simpa using ha]
  refine a_G_on condsV1 ?_
  rw [ask_lss, ask_pickF]
  refine a_ifD (fun hn => bad 1 (by have : n < 0 := by simpa using hn
                                    simp [partCode, this]) (by decide) _ _ _) fun hn => ?_
  obtain ⟨a, rfl⟩ : ∃ k : Nat, a = k := ⟨a.toNat, by omega⟩
  obtain ⟨n, rfl⟩ : ∃ k : Nat, n = k := ⟨n.toNat, by simp at hn; omega⟩
  refine a_len hP tyL hg.1 ?_
  refine a_len hP tyL hh.1 ?_
  rw [ask_minN rfl rfl, ask_gtr]
  simp only [Int.ofNat_lt]
  have hmG : min G.length H.length ≤ G.length := Nat.min_le_left _ _
  have hmH : min G.length H.length ≤ H.length := Nat.min_le_right _ _
  by_cases h1 : min G.length H.length < a
  · rw [show decide (min G.length H.length < a) = true by simpa using h1]
    refine a_G_off (condsV1_not (by decide)) fun _ => a_G_off (condsV1_not (by decide)) fun _ => ?_
    rw [ask_pickT]
    refine a_if (fun _ => bad 2 ?_ (by decide) _ _ _) fun h => by cases h
    unfold partCode
    rw [if_neg (by omega), if_pos (.inl (by omega))]
  rw [show decide (min G.length H.length < a) = false by simpa using h1]
  refine a_G_on condsV1 ?_
  rw [ask_subN (by omega) (by simp only [mx] at *; omega)]
  refine a_G_on condsV1 ?_
  rw [ask_gtr, ask_pickF]
  simp only [Int.ofNat_lt]
  refine a_ifD (fun h2 => bad 2 ?_ (by decide) _ _ _) fun h2 => ?_
  · unfold partCode
    rw [if_neg (by omega), if_pos (.inr (by omega))]
  have hc : partCode G.length H.length a n = 0 := by
    unfold partCode
    rw [if_neg (by omega), if_neg (by omega)]
  rw [ask_addN (by simp only [mx] at *; omega)]
  have sg := ls_sub encS_len hg (a := a) (n := n) (by omega)
  have sh := ls_sub encS_len hh (a := a) (n := n) (by omega)
  refine a_slcLH hP tyL hg.1 (Nat.le_add_right _ _) (by omega) ?_
  refine call_W hX hS (T := Tpt) (f := 60) rfl ((G.drop a).take n, ()) (fun w hw => ⟨⟨_, _, rfl, cLS_stable _ _ _ _ hw.stp sg, rfl⟩, by simp only [List.length_take, List.length_drop, mx] at *; omega⟩) fun v1 w1 u1 e1 k1 _ s1 o1 => ?_
  dsimp only at o1
  rw [ask_addN (by simp only [mx] at *; omega)]
  refine a_slcLH hP tyL hh.1 (Nat.le_add_right _ _) (by omega) ?_
  refine call_W hX hS (T := Tpt) (f := 60) rfl ((H.drop a).take n, ()) (fun w hw => ⟨⟨_, _, rfl, cLS_stable _ _ _ _ (s1.trans0 hw.stp) sh, rfl⟩, by simp only [List.length_take, List.length_drop, mx] at *; omega⟩) fun v2 w2 u2 e2 k2 _ s2 o2 => ?_
  dsimp only at o2
  have p1 := own_one o1; have p2 := own_one o2
  refine a_plain p1 ?_
  refine a_plain p2 ?_
  iterate 12 refine a_plain rfl ?_
  refine a_plain p1 ?_
  refine a_plain p2 ?_
  refine hR _ _ _ _ fun w hw => ⟨fun h => absurd hc h, fun _ => ⟨_, rfl, v1, v2, rfl, ob, obl, oq, ?_, ?_⟩⟩
  · refine ⟨own_at (own_stp0 o1 s2) (all3 (e1.low ?_) (e1.low ?_) (e1.low ?_)) hw.stp, sg.2⟩ <;> simp [kb20_0]
  · refine ⟨own_at o2 (all3 (e2.low ?_) (e2.low ?_) (e2.low ?_)) hw.stp, sh.2⟩ <;> simp [kb20_0]

def ann25 : Ann := ⟨[], [35], 70, [], [2], none, [], []⟩
theorem vc25 (X : Ctx) (β : Nat → Nat) (x0 x1 : Value) : (run Tryd.prog ann25 25 [.x (.v 0), .x (.v 1)] [] [] 3).den X (env0 [x0, x1] X.w0) 3 β 0 (fun _ _ _ => False) = (
  Ask (rAgg 4 x0) fun x3 =>
  AskNew X.w0 fun _ =>
  Ask (rAgg 26 x1) fun x4 =>
  AskNew X.w0 fun _ =>
  AskF X 35 [x3] fun x5 =>
  Ask (rSel (aggArr x4) 21 4 true) fun x6 =>
  Ask (rBin X.P .eql 36 false false x5 x6) fun x7 =>
  Ret X X.w0 [] [] x7) := by kernel_rfl
def cIsLine : Contract := fnP (fun p : Nat × Nat => [S p.1, E p.2]) dom2 (fun p v => v = .bool (decide (p.1 % lN = p.2)))
theorem E_inj {a b : Nat} (ha : okS a) (hb : okS b) (h : E a = E b) : a = b := encE_inj ha hb (by simpa [E] using h)
theorem keepsIsLine : Keeps1 Tryd.prog GT 25 cIsLine := by
  refine keepsP (T := Til) (A := ann25) (fun p q hp hq h => by
    simp only [List.cons.injEq, and_true] at h
    exact Prod.ext (S_inj hp.1 hq.1 h.1) (E_inj hp.2 hq.2 h.2)) hMix keepTil hGT (fun f hf => by
      simp only [ann25, List.mem_cons, List.not_mem_nil, or_false] at hf
      subst hf; intros; kernel_rfl) (fun f hf => by cases hf) fun ⟨a, b⟩ w0 ⟨ha, hb⟩ _ => ⟨[.x (.v 0), .x (.v 1)], [], [], 3, env0 [S a, E b] w0, fun b => b, 0, rfl, rfl, fun X hX => mem_none hX rfl, fun X hP hS hw hX hR => ?_⟩
  subst hw; dsimp only at ha hb hR
  rw [vc25 X]
  rw [ask_aggS]; intro _ _; rw [ask_aggE]; intro _ _
  refine call_PE hS (T := Til) (f := 35) rfl a ha ?_
  refine a_selL (ds := encS b) rfl (by simp [encE_len]) ?_
  rw [agg_encS, ask_eqlS (hP ▸ a4R) (lm_lt _) hb]
  exact hR _ _ _ _ rfl

def ann23 : Ann := ⟨[], [], 70, [], [], none, [], []⟩
def kb23_0 (b0 : Nat) (x3 x4 x5 x6 x7 x8 x9 x10 x11 x12 x13 x14 x15 x16 : Value) : List KB := [⟨b0, true, 29, #[x3, x4, x5, x6, x7, x8, x9, x10, x11, x12, x13, x14, x15, x16]⟩]
theorem vc23 (X : Ctx) (β : Nat → Nat) (x0 : Value) : (run Tryd.prog ann23 23 [.x (.v 0)] [] [] 2).den X (env0 [x0] X.w0) 2 β 0 (fun _ _ _ => False) = (
  Ask (rAgg 14 x0) fun x2 =>
  Ask (rSel (aggArr x2) 0 1 false) fun x3 =>
  Ask (rSel (aggArr x2) 1 1 false) fun x4 =>
  Ask (rSel (aggArr x2) 2 1 false) fun x5 =>
  Ask (rSel (aggArr x2) 3 1 false) fun x6 =>
  Ask (rSel (aggArr x2) 4 1 false) fun x7 =>
  Ask (rSel (aggArr x2) 5 1 false) fun x8 =>
  Ask (rSel (aggArr x2) 6 1 false) fun x9 =>
  Ask (rSel (aggArr x2) 7 1 false) fun x10 =>
  Ask (rSel (aggArr x2) 8 1 false) fun x11 =>
  Ask (rSel (aggArr x2) 9 1 false) fun x12 =>
  Ask (rSel (aggArr x2) 10 1 false) fun x13 =>
  Ask (rSel (aggArr x2) 11 1 false) fun x14 =>
  Ask (rSel (aggArr x2) 12 1 false) fun x15 =>
  Ask (rSel (aggArr x2) 13 1 false) fun x16 =>
  AskNew X.w0 fun b0 =>
  AskO X X.w0 [] (kb23_0 b0 x3 x4 x5 x6 x7 x8 x9 x10 x11 x12 x13 x14 x15 x16) false (Go.Op.buildSlice 27 3 #[(0, Go.Operand.tmp 4), (1, Go.Operand.tmp 6), (2, Go.Operand.tmp 8)]) 27 [(4, (.agg #[x3, x4, x5, x6])), (6, (.agg #[x7, x8, x9, x10])), (8, (.agg #[x11, x12, x13, x14]))] fun x17 w17 =>
  AskO X w17 [] (kb23_0 b0 x3 x4 x5 x6 x7 x8 x9 x10 x11 x12 x13 x14 x15 x16) true (appOp (.tmp 9) (.tmp 11) 27) 27 [(9, x17), (11, x15)] fun x18 w18 =>
  AskO X w18 [] (kb23_0 b0 x3 x4 x5 x6 x7 x8 x9 x10 x11 x12 x13 x14 x15 x16) true (appOp (.tmp 12) (.tmp 14) 27) 27 [(12, x18), (14, x16)] fun x19 w19 =>
  Ret X w19 [] [] x19) := by kernel_rfl
def cAll : Contract := fnW (Cods.cons cSetL Cods.nil) (fun p _ => p.1.2.2.2.1.length ≤ mx ∧ p.1.2.2.2.2.length ≤ mx) (fun p _ v w' => cLS.rd w' v ([p.1.1, p.1.2.1, p.1.2.2.1] ++ p.1.2.2.2.1 ++ p.1.2.2.2.2))
theorem keepsAll : Keeps1 Tryd.prog GT 23 cAll := by
  refine keepsW (T := T0) (A := ann23) hMix keepT0 hGT (fun f hf => by cases hf) (fun f hf => by cases hf) fun args ⟨⟨b, bl, q, G, H⟩, _⟩ w0 hrd hpre _ => ?_
  obtain ⟨_, _, rfl, ⟨g, h, rfl, ob, obl, oq, hg, hh⟩, rfl⟩ := hrd
  dsimp only at hpre ob obl oq hg hh
  refine ⟨[.x (.v 0)], [], [], 2, env0 [SetV b bl q g h] w0, fun b => b, 0, rfl, rfl, fun X hX => mem_none hX rfl, fun X hP hS hw hX hR => ?_⟩
  subst hw; dsimp only at hR
  replace hg : Ls encS okS X.w0 g G := hg
  replace hh : Ls encS okS X.w0 h H := hh
  rw [vc23 X]
  refine a_agg rfl (by simp [one_encS, slAt_one hg.1, slAt_one hh.1]) ?_
  iterate 14 refine a_sel1 rfl ?_
  intro b0 _
  refine a_build (encS b ++ encS bl ++ encS q).toArray hX hP tyL (by decide) (by decide) (by kernel_rfl) rfl (by decide) fun g1 w1 u1 h1 k1 _ s1 o1 => ?_
  refine a_append hX hP tyL (v := .slice (some ⟨g1, 0, none⟩) 3 3) (x := g) rfl rfl rfl (by decide) h1.sz0 (by have := o1.lt g1 rfl; omega) o1 (fun w hw => hg.1.stp0 (hw.kn.stp0 hX)) (flat_len encS_len G) (flat_one one_encS G) (fun _ _ => List.not_mem_nil)
    (fun w hw => own_not_kb hw (own_stp0 o1 hw.stp) rfl) (by simp only [maxLen, mx] at *; omega) (by simp only [mx] at *; omega) fun v2 w2 u2 h2 k2 _ s2 o2 _ => ?_
  refine a_append hX hP tyL (v := v2) (x := h) rfl rfl rfl (by decide) h1.sz0 (by have := o1.lt g1 rfl; have := s2.size; omega) o2 (fun w hw => hh.1.stp0 (hw.kn.stp0 hX)) (flat_len encS_len H) (flat_one one_encS H) (fun _ _ => List.not_mem_nil)
    (fun w hw => own_not_kb hw (own_stp0 o2 hw.stp) rfl) (by simp only [maxLen, mx] at *; omega) (by simp only [mx] at *; omega) fun v3 w3 u3 h3 k3 _ s3 o3 _ => ?_
  refine hR _ _ _ _ fun w hw => ⟨?_, fun x hx => ?_⟩
  · have e : ([b, bl, q] ++ G ++ H).flatMap encS = (encS b ++ encS bl ++ encS q) ++ G.flatMap encS ++ H.flatMap encS := by simp
    have e2 : ([b, bl, q] ++ G ++ H).length = 3 + G.length + H.length := by simp; omega
    rw [e, e2]
    exact (own_slAt o3).stp0 hw.stp
  · simp only [List.mem_append, List.mem_cons, List.not_mem_nil, or_false] at hx
    rcases hx with ((rfl | rfl | rfl) | hx) | hx
    · exact ob
    · exact obl
    · exact oq
    · exact hg.2 x hx
    · exact hh.2 x hx

def ann24 : Ann := ⟨[], [], 70, [], [], none, [], []⟩
def kb24_0 (b0 : Nat) (x2 : Value) : List KB := [⟨b0, true, 44, (aggArr x2)⟩]
theorem vc24 (X : Ctx) (β : Nat → Nat) (x0 : Value) : (run Tryd.prog ann24 24 [.x (.v 0)] [] [] 2).den X (env0 [x0] X.w0) 2 β 0 (fun _ _ _ => False) = (
  Ask (rAgg 81 x0) fun x2 =>
  AskNew X.w0 fun b0 =>
  Ask (rSel (aggArr x2) 1 26 true) fun x3 =>
  Ask (rSel (aggArr x2) 27 26 true) fun x4 =>
  Ask (rSel (aggArr x2) 53 26 true) fun x5 =>
  AskO X X.w0 [] (kb24_0 b0 x2) false (Go.Op.buildSlice 42 3 #[(0, Go.Operand.tmp 5), (1, Go.Operand.tmp 7), (2, Go.Operand.tmp 9)]) 42 [(5, x3), (7, x4), (9, x5)] fun x6 w6 =>
  Ask (rSel (aggArr x2) 79 1 false) fun x7 =>
  AskO X w6 [] (kb24_0 b0 x2) true (appOp (.tmp 11) (.tmp 13) 42) 42 [(11, x6), (13, x7)] fun x8 w8 =>
  Ask (rSel (aggArr x2) 80 1 false) fun x9 =>
  AskO X w8 [] (kb24_0 b0 x2) true (appOp (.tmp 15) (.tmp 17) 42) 42 [(15, x8), (17, x9)] fun x10 w10 =>
  Ret X w10 [] [] x10) := by kernel_rfl
def cRAll : Contract := fnW (Cods.cons cRSetL Cods.nil) (fun p _ => p.1.2.2.2.1.length ≤ mx ∧ p.1.2.2.2.2.length ≤ mx) (fun p _ v w' => cLE.rd w' v ([p.1.1, p.1.2.1, p.1.2.2.1] ++ p.1.2.2.2.1 ++ p.1.2.2.2.2))
theorem keepsRAll : Keeps1 Tryd.prog GT 24 cRAll := by
  refine keepsW (T := T0) (A := ann24) hMix keepT0 hGT (fun f hf => by cases hf) (fun f hf => by cases hf) fun args ⟨⟨b, bl, q, G, H⟩, _⟩ w0 hrd hpre _ => ?_
  obtain ⟨_, _, rfl, ⟨g, h, rfl, ob, obl, oq, hg, hh⟩, rfl⟩ := hrd
  dsimp only at hpre ob obl oq hg hh
  refine ⟨[.x (.v 0)], [], [], 2, env0 [RSetV b bl (encE q) g h] w0, fun b => b, 0, rfl, rfl, fun X hX => mem_none hX rfl, fun X hP hS hw hX hR => ?_⟩
  subst hw; dsimp only at hR
  replace hg : Ls encE okS X.w0 g G := hg
  replace hh : Ls encE okS X.w0 h H := hh
  rw [vc24 X]
  rw [ask_aggR (slAt_one hg.1) (slAt_one hh.1)]
  intro b0 _
  refine a_selL (ds := encE b) rfl (by simp [encE_len]) ?_
  refine a_selL (ds := encE bl) rfl (by simp [encE_len]) ?_
  refine a_selL (ds := encE q) rfl (by simp [encE_len]) ?_
  refine a_build (encE b ++ encE bl ++ encE q).toArray hX hP tyE (by decide) (by decide) (by kernel_rfl) rfl (by decide) fun g1 w1 u1 h1 k1 _ s1 o1 => ?_
  refine a_sel1 (v := g) rfl ?_
  refine a_append hX hP tyE (v := .slice (some ⟨g1, 0, none⟩) 3 3) (x := g) rfl rfl rfl (by decide) h1.sz0 (by have := o1.lt g1 rfl; omega) o1 (fun w hw => hg.1.stp0 (hw.kn.stp0 hX)) (flat_len encE_len G) (flat_one one_encE G) (fun _ _ => List.not_mem_nil)
    (fun w hw => own_not_kb hw (own_stp0 o1 hw.stp) rfl) (by simp only [maxLen, mx] at *; omega) (by simp only [mx] at *; omega) fun v2 w2 u2 h2 k2 _ s2 o2 _ => ?_
  refine a_sel1 (v := h) rfl ?_
  refine a_append hX hP tyE (v := v2) (x := h) rfl rfl rfl (by decide) h1.sz0 (by have := o1.lt g1 rfl; have := s2.size; omega) o2 (fun w hw => hh.1.stp0 (hw.kn.stp0 hX)) (flat_len encE_len H) (flat_one one_encE H) (fun _ _ => List.not_mem_nil)
    (fun w hw => own_not_kb hw (own_stp0 o2 hw.stp) rfl) (by simp only [maxLen, mx] at *; omega) (by simp only [mx] at *; omega) fun v3 w3 u3 h3 k3 _ s3 o3 _ => ?_
  refine hR _ _ _ _ fun w hw => ⟨?_, fun x hx => ?_⟩
  · have e : ([b, bl, q] ++ G ++ H).flatMap encE = (encE b ++ encE bl ++ encE q) ++ G.flatMap encE ++ H.flatMap encE := by simp
    have e2 : ([b, bl, q] ++ G ++ H).length = 3 + G.length + H.length := by simp; omega
    rw [e, e2]
    exact (own_slAt o3).stp0 hw.stp
  · simp only [List.mem_append, List.mem_cons, List.not_mem_nil, or_false] at hx
    rcases hx with ((rfl | rfl | rfl) | hx) | hx
    · exact ob
    · exact obl
    · exact oq
    · exact hg.2 x hx
    · exact hh.2 x hx
end Go.Vc

/-
  The document's parts; comparisons of sets.
-/
namespace Go.Vc
open Go Go.Proofs Go.RowKit

def ann21 : Ann := ⟨[], [], 70, [], [], none, [], []⟩
def kb21_0 (b0 b1 b2 : Nat) (x4 x30 : Value) : List KB := [⟨b0, true, 44, (aggArr x4)⟩, ⟨b1, true, 44, #[(J 0), (J 0), (J 0), (J 0), (J 0), (J 0), (J 0), (J 0), (J 0), (J 0), (J 0), (J 0), (J 0), (J 0), (J 0), (J 0), (J 0), (J 0), (J 0), (J 0), (J 0), (J 0), (U 0), (U 0), (U 0), (U 0), (.slice none 0 0), (J 0), (J 0), (J 0), (J 0), (J 0), (J 0), (J 0), (J 0), (J 0), (J 0), (J 0), (J 0), (J 0), (J 0), (J 0), (J 0), (J 0), (J 0), (J 0), (J 0), (J 0), (U 0), (U 0), (U 0), (U 0), (.slice none 0 0), (J 0), (J 0), (J 0), (J 0), (J 0), (J 0), (J 0), (J 0), (J 0), (J 0), (J 0), (J 0), (J 0), (J 0), (J 0), (J 0), (J 0), (J 0), (J 0), (J 0), (J 0), (U 0), (U 0), (U 0), (U 0), (.slice none 0 0), (.slice none 0 0), (.slice none 0 0)]⟩, ⟨b2, true, 44, (aggArr x30)⟩]
def kb21_1 (b0 b1 b2 : Nat) (x4 x36 : Value) : List KB := [⟨b0, true, 44, (aggArr x4)⟩, ⟨b1, true, 44, #[(J 0), (J 0), (J 0), (J 0), (J 0), (J 0), (J 0), (J 0), (J 0), (J 0), (J 0), (J 0), (J 0), (J 0), (J 0), (J 0), (J 0), (J 0), (J 0), (J 0), (J 0), (J 0), (U 0), (U 0), (U 0), (U 0), (.slice none 0 0), (J 0), (J 0), (J 0), (J 0), (J 0), (J 0), (J 0), (J 0), (J 0), (J 0), (J 0), (J 0), (J 0), (J 0), (J 0), (J 0), (J 0), (J 0), (J 0), (J 0), (J 0), (U 0), (U 0), (U 0), (U 0), (.slice none 0 0), (J 0), (J 0), (J 0), (J 0), (J 0), (J 0), (J 0), (J 0), (J 0), (J 0), (J 0), (J 0), (J 0), (J 0), (J 0), (J 0), (J 0), (J 0), (J 0), (J 0), (J 0), (U 0), (U 0), (U 0), (U 0), (.slice none 0 0), (.slice none 0 0), (.slice none 0 0)]⟩, ⟨b2, true, 44, (aggArr x36)⟩]
theorem vc21 (X : Ctx) (β : Nat → Nat) (x0 x1 x2 : Value) : (run Tryd.prog ann21 21 [.x (.v 0), .x (.v 1), .x (.v 2)] [] [] 4).den X (env0 [x0, x1, x2] X.w0) 4 β 0 (fun _ _ _ => False) = (
  Ask (rAgg 81 x0) fun x4 =>
  AskNew X.w0 fun b0 =>
  AskNew X.w0 fun b1 =>
  Ask (rBin X.P .lss 3 false true x1 (J 0)) fun x5 =>
  AskG [(x5, false)] (rBin X.P .lss 3 false true x2 (J 0)) fun x6 =>
  Ask (rPick x5 (.bool true) x6) fun x7 =>
  (∃ t, x7 = .bool t) ∧ (x7 = .bool true →
    Ret X X.w0 [b1] [] (.tuple #[(.agg #[(J 0), (J 0), (J 0), (J 0), (J 0), (J 0), (J 0), (J 0), (J 0), (J 0), (J 0), (J 0), (J 0), (J 0), (J 0), (J 0), (J 0), (J 0), (J 0), (J 0), (J 0), (J 0), (U 0), (U 0), (U 0), (U 0), (.slice none 0 0), (J 0), (J 0), (J 0), (J 0), (J 0), (J 0), (J 0), (J 0), (J 0), (J 0), (J 0), (J 0), (J 0), (J 0), (J 0), (J 0), (J 0), (J 0), (J 0), (J 0), (J 0), (U 0), (U 0), (U 0), (U 0), (.slice none 0 0), (J 0), (J 0), (J 0), (J 0), (J 0), (J 0), (J 0), (J 0), (J 0), (J 0), (J 0), (J 0), (J 0), (J 0), (J 0), (J 0), (J 0), (J 0), (J 0), (J 0), (J 0), (U 0), (U 0), (U 0), (U 0), (.slice none 0 0), (.slice none 0 0), (.slice none 0 0)]), (J 1)])) ∧ (x7 = .bool false →
    Ask (rSel (aggArr x4) 79 1 false) fun x8 =>
    Ask (rLen X.P 42 x8) fun x9 =>
    Ask (rBin X.P .gtr 3 false false x2 x9) fun x10 =>
    AskG [(x10, false)] (rSel (aggArr x4) 80 1 false) fun x11 =>
    AskG [(x10, false)] (rLen X.P 42 x11) fun x12 =>
    AskG [(x10, false)] (rBin X.P .gtr 3 false false x2 x12) fun x13 =>
    Ask (rPick x10 (.bool true) x13) fun x14 =>
    AskG [(x14, false)] (rSel (aggArr x4) 79 1 false) fun x15 =>
    AskG [(x14, false)] (rLen X.P 42 x15) fun x16 =>
    AskG [(x14, false)] (rBin X.P .sub 3 false false x16 x2) fun x17 =>
    AskG [(x14, false)] (rBin X.P .gtr 3 false false x1 x17) fun x18 =>
    Ask (rPick x14 (.bool true) x18) fun x19 =>
    AskG [(x19, false)] (rSel (aggArr x4) 80 1 false) fun x20 =>
    AskG [(x19, false)] (rLen X.P 42 x20) fun x21 =>
    AskG [(x19, false)] (rBin X.P .sub 3 false false x21 x2) fun x22 =>
    AskG [(x19, false)] (rBin X.P .gtr 3 false false x1 x22) fun x23 =>
    Ask (rPick x19 (.bool true) x23) fun x24 =>
    (∃ t, x24 = .bool t) ∧ (x24 = .bool true →
      Ret X X.w0 [b1] [] (.tuple #[(.agg #[(J 0), (J 0), (J 0), (J 0), (J 0), (J 0), (J 0), (J 0), (J 0), (J 0), (J 0), (J 0), (J 0), (J 0), (J 0), (J 0), (J 0), (J 0), (J 0), (J 0), (J 0), (J 0), (U 0), (U 0), (U 0), (U 0), (.slice none 0 0), (J 0), (J 0), (J 0), (J 0), (J 0), (J 0), (J 0), (J 0), (J 0), (J 0), (J 0), (J 0), (J 0), (J 0), (J 0), (J 0), (J 0), (J 0), (J 0), (J 0), (J 0), (U 0), (U 0), (U 0), (U 0), (.slice none 0 0), (J 0), (J 0), (J 0), (J 0), (J 0), (J 0), (J 0), (J 0), (J 0), (J 0), (J 0), (J 0), (J 0), (J 0), (J 0), (J 0), (J 0), (J 0), (J 0), (J 0), (J 0), (U 0), (U 0), (U 0), (U 0), (.slice none 0 0), (.slice none 0 0), (.slice none 0 0)]), (J 2)])) ∧ (x24 = .bool false →
      Ask (rSel (aggArr x4) 0 1 false) fun x25 =>
      Ask (rSel (aggArr x4) 1 26 true) fun x26 =>
      Ask (rSel (aggArr x4) 27 26 true) fun x27 =>
      Ask (rSel (aggArr x4) 53 26 true) fun x28 =>
      Ask (rBld X.P 44 #[(0, x25), (1, x26), (2, x27), (3, x28)]) fun x29 =>
      AskNew X.w0 fun b2 =>
      Ask (rAgg 81 x29) fun x30 =>
      Ask (rSel (aggArr x30) 79 1 false) fun x31 =>
      Ask (rSel (aggArr x4) 79 1 false) fun x32 =>
      Ask (rBin X.P .add 3 false false x1 x2) fun x33 =>
      Ask (rSlc X.P 42 x32 (some x1) (some x33) none) fun x34 =>
      AskO X X.w0 [b2] (kb21_0 b0 b1 b2 x4 x30) true (appOp (.tmp 57) (.tmp 64) 42) 42 [(57, x31), (64, x34)] fun x35 w35 =>
      Ask (rUpd (aggArr x30) 79 1 x35) fun x36 =>
      Ask (rSel (aggArr x36) 80 1 false) fun x37 =>
      Ask (rSel (aggArr x4) 80 1 false) fun x38 =>
      Ask (rBin X.P .add 3 false false x1 x2) fun x39 =>
      Ask (rSlc X.P 42 x38 (some x1) (some x39) none) fun x40 =>
      AskO X w35 [b2] (kb21_1 b0 b1 b2 x4 x36) true (appOp (.tmp 68) (.tmp 75) 42) 42 [(68, x37), (75, x40)] fun x41 w41 =>
      Ask (rUpd (aggArr x36) 80 1 x41) fun x42 =>
      Ask (rAgg 81 x42) fun x43 =>
      Ret X w41 [b1, b2] [] (.tuple #[x43, (J 0)])))) := by kernel_rfl
def cRPart : Contract := fnW (Cods.cons cRSetL (Cods.cons cI (Cods.cons cI Cods.nil))) (fun p _ => p.1.2.2.2.1.length ≤ mx ∧ p.1.2.2.2.2.length ≤ mx)
  (fun p _ v w' => (partCode p.1.2.2.2.1.length p.1.2.2.2.2.length p.2.1 p.2.2.1 ≠ 0 → ∃ cs : List Value, cs.length = 81 ∧ cs.all (·.oneCell') = true ∧ v = .tuple #[.agg cs.toArray, J (partCode p.1.2.2.2.1.length p.1.2.2.2.2.length p.2.1 p.2.2.1)]) ∧
    (partCode p.1.2.2.2.1.length p.1.2.2.2.2.length p.2.1 p.2.2.1 = 0 → ∃ x, v = .tuple #[x, J 0] ∧ cRSetL.rd w' x (p.1.1, p.1.2.1, p.1.2.2.1, (p.1.2.2.2.1.drop p.2.1.toNat).take p.2.2.1.toNat, (p.1.2.2.2.2.drop p.2.1.toNat).take p.2.2.1.toNat)))
theorem one81 : (([J 0] ++ zE ++ zE ++ zE ++ [Value.slice none 0 0, Value.slice none 0 0]).all (·.oneCell')) = true := by
  simp only [List.all_append, List.all_cons, List.all_nil, one_zE, Bool.and_true]; rfl
theorem keepsRPart : Keeps1 Tryd.prog GT 21 cRPart := by
  refine keepsW (T := T0) (A := ann21) hMix keepT0 hGT (fun f hf => by cases hf) (fun f hf => by cases hf) fun args ⟨⟨b, bl, q, G, H⟩, a, n, _⟩ w0 hrd hpre _ => ?_
  obtain ⟨_, _, rfl, ⟨g, h, rfl, ob, obl, oq, hg, hh⟩, _, _, rfl, rfl, _, _, rfl, rfl, rfl⟩ := hrd
  dsimp only at hpre ob obl oq hg hh
  refine ⟨[.x (.v 0), .x (.v 1), .x (.v 2)], [], [], 4, env0 [RSetV b bl (encE q) g h, .int .i64 a, .int .i64 n] w0, fun b => b, 0, rfl, rfl, fun X hX => mem_none hX rfl, fun X hP hS hw hX hR => ?_⟩
  subst hw; dsimp only at hR
  replace hg : Ls encE okS X.w0 g G := hg
  replace hh : Ls encE okS X.w0 h H := hh
  rw [vc21 X]
  rw [ask_aggR (slAt_one hg.1) (slAt_one hh.1)]
  intro b0 _ b1 _
  have bad : ∀ (c : Nat), partCode G.length H.length a n = c → c ≠ 0 → ∀ u ow bl, Ret X u ow bl (.tuple #[.agg ([J 0] ++ zE ++ zE ++ zE ++ [Value.slice none 0 0, Value.slice none 0 0]).toArray, J c]) := fun c h1 h2 u ow bl => hR _ _ _ _ fun w _ => ⟨fun _ => ⟨_, rfl, one81, by rw [h1]⟩, fun h => absurd (h1 ▸ h) h2⟩
  rw [ask_lss]
  by_cases ha : a < 0
  · rw [show decide (a < ((0 : Nat) : Int)) = true by simpa using ha]
    refine a_G_off (condsV1_not (by decide)) fun v => ?_
    rw [ask_pickT]
    exact a_if (fun _ => bad 1 (by simp [partCode, ha]) (by decide) _ _ _) fun h => by cases h
  rw [show decide (a < ((0 : Nat) : Int)) = false by simpa using ha]
  refine a_G_on condsV1 ?_
  rw [ask_lss, ask_pickF]
  refine a_ifD (fun hn => bad 1 (by have : n < 0 := by simpa using hn
                                    simp [partCode, this]) (by decide) _ _ _) fun hn => ?_
  obtain ⟨a, rfl⟩ : ∃ k : Nat, a = k := ⟨a.toNat, by omega⟩
  obtain ⟨n, rfl⟩ : ∃ k : Nat, n = k := ⟨n.toNat, by simp at hn; omega⟩
  have hmG : min G.length H.length ≤ G.length := Nat.min_le_left _ _
  have hmH : min G.length H.length ≤ H.length := Nat.min_le_right _ _
  have hmin : min G.length H.length = G.length ∨ min G.length H.length = H.length := by rw [Nat.min_def]; split <;> simp
  have code2 : (G.length < n ∨ H.length < n ∨ G.length < a + n ∨ H.length < a + n) → partCode G.length H.length a n = 2 := fun h => by
    unfold partCode
    rw [if_neg (by omega), if_pos (by omega)]
  refine a_sel1 (v := g) rfl ?_
  refine a_len hP tyE hg.1 ?_
  rw [ask_gtr]
  simp only [Int.ofNat_lt]
  by_cases c1 : G.length < n
  · rw [show decide (G.length < n) = true by simpa using c1]
    refine a_G_off (condsV1_not (by decide)) fun _ => a_G_off (condsV1_not (by decide)) fun _ => a_G_off (condsV1_not (by decide)) fun _ => ?_
    rw [ask_pickT]
    iterate 4 refine a_G_off (condsV1_not (by decide)) fun _ => ?_
    rw [ask_pickT]
    iterate 4 refine a_G_off (condsV1_not (by decide)) fun _ => ?_
    rw [ask_pickT]
    exact a_if (fun _ => bad 2 (code2 (.inl c1)) (by decide) _ _ _) fun h => by cases h
  rw [show decide (G.length < n) = false by simpa using c1]
  refine a_G_on condsV1 (a_sel1 (v := h) rfl ?_)
  refine a_G_on condsV1 (a_len hP tyE hh.1 ?_)
  refine a_G_on condsV1 ?_
  rw [ask_gtr, ask_pickF]
  simp only [Int.ofNat_lt]
  by_cases c2 : H.length < n
  · rw [show decide (H.length < n) = true by simpa using c2]
    iterate 4 refine a_G_off (condsV1_not (by decide)) fun _ => ?_
    rw [ask_pickT]
    iterate 4 refine a_G_off (condsV1_not (by decide)) fun _ => ?_
    rw [ask_pickT]
    exact a_if (fun _ => bad 2 (code2 (.inr (.inl c2))) (by decide) _ _ _) fun h => by cases h
  rw [show decide (H.length < n) = false by simpa using c2]
  refine a_G_on condsV1 (a_sel1 (v := g) rfl ?_)
  refine a_G_on condsV1 (a_len hP tyE hg.1 ?_)
  refine a_G_on condsV1 ?_
  rw [ask_subN (by omega) (by simp only [mx] at *; omega)]
  refine a_G_on condsV1 ?_
  rw [ask_gtr, ask_pickF]
  simp only [Int.ofNat_lt]
  by_cases c3 : G.length - n < a
  · rw [show decide (G.length - n < a) = true by simpa using c3]
    iterate 4 refine a_G_off (condsV1_not (by decide)) fun _ => ?_
    rw [ask_pickT]
    exact a_if (fun _ => bad 2 (code2 (by omega)) (by decide) _ _ _) fun h => by cases h
  rw [show decide (G.length - n < a) = false by simpa using c3]
  refine a_G_on condsV1 (a_sel1 (v := h) rfl ?_)
  refine a_G_on condsV1 (a_len hP tyE hh.1 ?_)
  refine a_G_on condsV1 ?_
  rw [ask_subN (by omega) (by simp only [mx] at *; omega)]
  refine a_G_on condsV1 ?_
  rw [ask_gtr, ask_pickF]
  simp only [Int.ofNat_lt]
  refine a_ifD (fun c4 => bad 2 (code2 (by omega)) (by decide) _ _ _) fun c4 => ?_
  have hc : partCode G.length H.length a n = 0 := by
    unfold partCode
    rw [if_neg (by omega), if_neg (by omega)]
  refine a_sel1 (v := J 2) rfl ?_
  refine a_selL (ds := encE b) rfl (by simp [encE_len]) ?_
  refine a_selL (ds := encE bl) rfl (by simp [encE_len]) ?_
  refine a_selL (ds := encE q) rfl (by simp [encE_len]) ?_
  refine a_bld ([J 2] ++ encE b ++ encE bl ++ encE q ++ [Value.slice none 0 0, Value.slice none 0 0]).toArray hP (by kernel_rfl) ?_
  intro b2 _
  have foldR : Value.agg ([J 2] ++ encE b ++ encE bl ++ encE q ++ [Value.slice none 0 0, Value.slice none 0 0]).toArray = RSetV b bl (encE q) (.slice none 0 0) (.slice none 0 0) := rfl
  rw [foldR, ask_aggR rfl rfl]
  have sg := ls_sub encE_len hg (a := a) (n := n) (by omega)
  have sh := ls_sub encE_len hh (a := a) (n := n) (by omega)
  refine a_sel1 (v := .slice none 0 0) rfl ?_
  refine a_sel1 (v := g) rfl ?_
  rw [ask_addN (by simp only [mx] at *; omega)]
  refine a_slcLH hP tyE hg.1 (Nat.le_add_right _ _) (by omega) ?_
  have lg : ((G.drop a).take n).length = n := by rw [List.length_take, List.length_drop]; omega
  have lh : ((H.drop a).take n).length = n := by rw [List.length_take, List.length_drop]; omega
  refine a_append hX hP tyE (v := .slice none 0 0) (x := SubV g a (a + n) 26) rfl rfl rfl (by decide) (Nat.le_refl _) (Nat.le_refl _) (World.ownsRow_nil _ _ _ _) (fun w hw => sg.1.stp0 (hw.kn.stp0 hX)) (flat_len encE_len _) (flat_one one_encE _) (fun _ h => by cases h) (fun _ _ _ h => by cases h)
    (by rw [lg]; simp only [maxLen, mx] at *; omega) (by rw [lg]; simp only [mx] at *; omega) fun v1 w1 u1 e1 k1 _ s1 o1 hb1 => ?_
  rw [ask_updG (own_one o1)]
  refine a_sel1 (v := .slice none 0 0) rfl ?_
  refine a_sel1 (v := h) rfl ?_
  rw [ask_addN (by simp only [mx] at *; omega)]
  refine a_slcLH hP tyE hh.1 (Nat.le_add_right _ _) (by omega) ?_
  refine a_append hX hP tyE (v := .slice none 0 0) (x := SubV h a (a + n) 26) rfl rfl rfl (by decide) (Nat.le_refl _) k1.sz0 (World.ownsRow_nil _ _ _ _) (fun w hw => sh.1.stp0 (hw.kn.stp0 hX)) (flat_len encE_len _) (flat_one one_encE _) (fun _ h => by cases h) (fun _ _ _ h => by cases h)
    (by rw [lh]; simp only [maxLen, mx] at *; omega) (by rw [lh]; simp only [mx] at *; omega) fun v2 w2 u2 e2 k2 _ s2 o2 hb2' => ?_
  rw [ask_updH (own_one o2), ask_aggR (own_one o1) (own_one o2)]
  have l1 : ∀ x, v1.ownBlock = some x → x ≠ b1 ∧ x ≠ b2 := fun x hx => by
    rcases hb1 with hb1 | hb1
    · rw [hb1] at hx; cases hx
    · rw [hb1] at hx
      cases hx
      have := e1.low (b := b1) (by simp [kb21_0])
      have := e1.low (b := b2) (by simp [kb21_0])
      omega
  have l2 : ∀ x, v2.ownBlock = some x → x ≠ b1 ∧ x ≠ b2 := fun x hx => by
    rcases hb2' with hb1 | hb1
    · rw [hb1] at hx; cases hx
    · rw [hb1] at hx
      cases hx
      have := e2.low (b := b1) (by simp [kb21_1])
      have := e2.low (b := b2) (by simp [kb21_1])
      omega
  refine hR _ _ _ _ fun w hw => ⟨fun h => absurd hc h, fun _ => ⟨_, rfl, v1, v2, rfl, ob, obl, oq, ⟨?_, sg.2⟩, ⟨?_, sh.2⟩⟩⟩
  · have h0 : SlAt u2 v1 _ _ := (own_slAt o1).stp s2 (fun x hx hm => by
      simp only [List.mem_append, List.mem_singleton, Value.ownBlock, Option.toList, List.not_mem_nil, or_false] at hm
      exact (l1 x hx).2 hm)
    have := h0.stp hw.stp (fun x hx hm => by
      simp only [List.mem_cons, List.not_mem_nil, or_false] at hm
      rcases hm with hm | hm
      · exact (l1 x hx).1 hm
      · exact (l1 x hx).2 hm)
    simpa using this
  · have := (own_slAt o2).stp hw.stp (fun x hx hm => by
      simp only [List.mem_cons, List.not_mem_nil, or_false] at hm
      rcases hm with hm | hm
      · exact (l2 x hx).1 hm
      · exact (l2 x hx).2 hm)
    simpa using this
end Go.Vc
