/-
  Sets of generators: the document's set, parts.
-/
import Derived.Test.YtoakfcihcmmihaaDoorDGen
namespace Go.Vc
open Go Go.Proofs Go.RowKit

def ann19 : Ann := ⟨[(3, ([6], [2])), (7, ([7], [2]))], [59], 70, [], []⟩
def kb19_0 (b0 b1 b2 : Nat) (x3 x4 x5 x6 x7 x8 x9 x10 x11 x12 x13 x14 x15 x16 x21 : Value) : List KB := [⟨b0, true, 61, #[x3, x4, x5, x6, x7, x8, x9, x10, x11, x12, x13, x14, x15, x16]⟩, ⟨b1, true, 44, #[(J 0), (J 0), (J 0), (J 0), (J 0), (J 0), (J 0), (J 0), (J 0), (J 0), (J 0), (J 0), (J 0), (J 0), (J 0), (J 0), (J 0), (J 0), (J 0), (J 0), (J 0), (J 0), (U 0), (U 0), (U 0), (U 0), (.slice none 0 0), (J 0), (J 0), (J 0), (J 0), (J 0), (J 0), (J 0), (J 0), (J 0), (J 0), (J 0), (J 0), (J 0), (J 0), (J 0), (J 0), (J 0), (J 0), (J 0), (J 0), (J 0), (U 0), (U 0), (U 0), (U 0), (.slice none 0 0), (J 0), (J 0), (J 0), (J 0), (J 0), (J 0), (J 0), (J 0), (J 0), (J 0), (J 0), (J 0), (J 0), (J 0), (J 0), (J 0), (J 0), (J 0), (J 0), (J 0), (J 0), (U 0), (U 0), (U 0), (U 0), (.slice none 0 0), (.slice none 0 0), (.slice none 0 0)]⟩, ⟨b2, true, 44, (aggArr x21)⟩]
def kb19_1 (b0 b1 b2 : Nat) (x3 x4 x5 x6 x7 x8 x9 x10 x11 x12 x13 x14 x15 x16 x23 : Value) : List KB := [⟨b0, true, 61, #[x3, x4, x5, x6, x7, x8, x9, x10, x11, x12, x13, x14, x15, x16]⟩, ⟨b1, true, 44, #[(J 0), (J 0), (J 0), (J 0), (J 0), (J 0), (J 0), (J 0), (J 0), (J 0), (J 0), (J 0), (J 0), (J 0), (J 0), (J 0), (J 0), (J 0), (J 0), (J 0), (J 0), (J 0), (U 0), (U 0), (U 0), (U 0), (.slice none 0 0), (J 0), (J 0), (J 0), (J 0), (J 0), (J 0), (J 0), (J 0), (J 0), (J 0), (J 0), (J 0), (J 0), (J 0), (J 0), (J 0), (J 0), (J 0), (J 0), (J 0), (J 0), (U 0), (U 0), (U 0), (U 0), (.slice none 0 0), (J 0), (J 0), (J 0), (J 0), (J 0), (J 0), (J 0), (J 0), (J 0), (J 0), (J 0), (J 0), (J 0), (J 0), (J 0), (J 0), (J 0), (J 0), (J 0), (J 0), (J 0), (U 0), (U 0), (U 0), (U 0), (.slice none 0 0), (.slice none 0 0), (.slice none 0 0)]⟩, ⟨b2, true, 44, (aggArr x23)⟩]
def kb19_2 (b0 b1 b2 : Nat) (x3 x4 x5 x6 x7 x8 x9 x10 x11 x12 x13 x14 x15 x16 x28 : Value) : List KB := [⟨b0, true, 61, #[x3, x4, x5, x6, x7, x8, x9, x10, x11, x12, x13, x14, x15, x16]⟩, ⟨b1, true, 44, #[(J 0), (J 0), (J 0), (J 0), (J 0), (J 0), (J 0), (J 0), (J 0), (J 0), (J 0), (J 0), (J 0), (J 0), (J 0), (J 0), (J 0), (J 0), (J 0), (J 0), (J 0), (J 0), (U 0), (U 0), (U 0), (U 0), (.slice none 0 0), (J 0), (J 0), (J 0), (J 0), (J 0), (J 0), (J 0), (J 0), (J 0), (J 0), (J 0), (J 0), (J 0), (J 0), (J 0), (J 0), (J 0), (J 0), (J 0), (J 0), (J 0), (U 0), (U 0), (U 0), (U 0), (.slice none 0 0), (J 0), (J 0), (J 0), (J 0), (J 0), (J 0), (J 0), (J 0), (J 0), (J 0), (J 0), (J 0), (J 0), (J 0), (J 0), (J 0), (J 0), (J 0), (J 0), (J 0), (J 0), (U 0), (U 0), (U 0), (U 0), (.slice none 0 0), (.slice none 0 0), (.slice none 0 0)]⟩, ⟨b2, true, 44, (aggArr x28)⟩]
theorem vc19 (X : Ctx) (β : Nat → Nat) (x0 : Value) : (run Tryd.prog ann19 19 [.x (.v 0), .x (.c (J 2))] [] [] 2).den X (env0 [x0] X.w0) 2 β 0 (fun _ _ _ => False) = (
  Ask (rAgg 14 x0) fun x2 =>
  Ask (rSel (aggArr x2) 0 1 false) fun x3 =>
  Ask (rSel (aggArr x2) 1 1 false) fun x4 =>
  Ask (rSel (aggArr x2) 2 1 false) fun x5 =>
  Ask (rSel (aggArr x2) 3 1 false) fun x6 =>
  Ask (rSel (aggArr x2) 4 1 false) fun x7 =>
  Ask (rSel (aggArr x2) 5 1 false) fun x8 =>
  Ask (rSel (aggArr x2) 6 1 false) fun x9 =>
  Ask (rSel (aggArr x2) 7 1 false) fun x10 =>
  Ask (rSel (aggArr x2) 8 1 false) fun x11 =>
  Ask (rSel (aggArr x2) 9 1 false) fun x12 =>
  Ask (rSel (aggArr x2) 10 1 false) fun x13 =>
  Ask (rSel (aggArr x2) 11 1 false) fun x14 =>
  Ask (rSel (aggArr x2) 12 1 false) fun x15 =>
  Ask (rSel (aggArr x2) 13 1 false) fun x16 =>
  AskNew X.w0 fun b0 =>
  AskNew X.w0 fun b1 =>
  AskF X 59 [(J 2), (.agg #[x3, x4, x5, x6])] fun x17 =>
  AskF X 59 [(J 2), (.agg #[x7, x8, x9, x10])] fun x18 =>
  AskF X 59 [(J 2), (.agg #[x11, x12, x13, x14])] fun x19 =>
  Ask (rBld X.P 44 #[(0, (J 2)), (1, x17), (2, x18), (3, x19)]) fun x20 =>
  AskNew X.w0 fun b2 =>
  Ask (rAgg 81 x20) fun x21 =>
  ∃ (I0 : List Value → World → Prop) (μ0 : List Value → World → Nat), (∀ w, KnownV X X.w0 [b2] (kb19_0 b0 b1 b2 x3 x4 x5 x6 x7 x8 x9 x10 x11 x12 x13 x14 x15 x16 x21) w → I0 [(J 0), x21] w) ∧ ∀ x22 x23 w24, I0 [x22, x23] w24 →
    Ask (rLen X.P 59 x15) fun x25 =>
    Ask (rBin X.P .lss 3 false false x22 x25) fun x26 =>
    (∃ t, x26 = .bool t) ∧ (x26 = .bool true →
      Ask (rSel (aggArr x23) 79 1 false) fun x27 =>
      Ask (rIad X.P 59 x15 x22) fun x28 =>
      Ask (rLoad X w24 [] 24 x28) fun x29 =>
      AskF X 59 [(J 2), x29] fun x30 =>
      AskO X w24 [] (kb19_1 b0 b1 b2 x3 x4 x5 x6 x7 x8 x9 x10 x11 x12 x13 x14 x15 x16 x23) false (Go.Op.buildSlice 42 1 #[(0, Go.Operand.tmp 37)]) 42 [(37, x30)] fun x31 w31 =>
      AskO X w31 [] (kb19_1 b0 b1 b2 x3 x4 x5 x6 x7 x8 x9 x10 x11 x12 x13 x14 x15 x16 x23) true (appOp (.tmp 30) (.tmp 38) 42) 42 [(30, x27), (38, x31)] fun x32 w32 =>
      Ask (rUpd (aggArr x23) 79 1 x32) fun x33 =>
      Ask (rBin X.P .add 3 false true x22 (J 1)) fun x34 =>
      Again X w32 [b2] [] fun w => I0 [x34, x33] w ∧ μ0 [x34, x33] w < μ0 [x22, x23] w24) ∧ (x26 = .bool false →
      ∃ (I0 : List Value → World → Prop) (μ0 : List Value → World → Nat), (∀ w, KnownV X w24 [] (kb19_1 b0 b1 b2 x3 x4 x5 x6 x7 x8 x9 x10 x11 x12 x13 x14 x15 x16 x23) w → I0 [(J 0), x23] w) ∧ ∀ x27 x28 w29, I0 [x27, x28] w29 →
        Ask (rLen X.P 59 x16) fun x30 =>
        Ask (rBin X.P .lss 3 false false x27 x30) fun x31 =>
        (∃ t, x31 = .bool t) ∧ (x31 = .bool true →
          Ask (rSel (aggArr x28) 80 1 false) fun x32 =>
          Ask (rIad X.P 59 x16 x27) fun x33 =>
          Ask (rLoad X w29 [] 24 x33) fun x34 =>
          AskF X 59 [(J 2), x34] fun x35 =>
          AskO X w29 [] (kb19_2 b0 b1 b2 x3 x4 x5 x6 x7 x8 x9 x10 x11 x12 x13 x14 x15 x16 x28) false (Go.Op.buildSlice 42 1 #[(0, Go.Operand.tmp 56)]) 42 [(56, x35)] fun x36 w36 =>
          AskO X w36 [] (kb19_2 b0 b1 b2 x3 x4 x5 x6 x7 x8 x9 x10 x11 x12 x13 x14 x15 x16 x28) true (appOp (.tmp 49) (.tmp 57) 42) 42 [(49, x32), (57, x36)] fun x37 w37 =>
          Ask (rUpd (aggArr x28) 80 1 x37) fun x38 =>
          Ask (rBin X.P .add 3 false true x27 (J 1)) fun x39 =>
          Again X w37 [b2] [] fun w => I0 [x39, x38] w ∧ μ0 [x39, x38] w < μ0 [x27, x28] w29) ∧ (x31 = .bool false →
          Ask (rAgg 81 x28) fun x32 =>
          Ret X w29 [b1] [] x32))) := by kernel_rfl
def cSetK : Cods ((Nat × Nat × Nat × List Nat × List Nat) × Unit) := ⟨fun w l p => ∃ v, l = [v, J 2] ∧ cSetL.rd w v p.1, fun w l p q ⟨v, e, h⟩ ⟨v', e', h'⟩ => by
  rw [e] at e'; cases e'
  exact Prod.ext (cSetL.inj _ _ _ _ h h') rfl⟩
def cRef : Contract := fnW cSetK (fun p _ => p.1.2.2.2.1.length ≤ mx ∧ p.1.2.2.2.2.length ≤ mx)
  (fun p _ v w' => cRSetL.rd w' v (p.1.1 % lN, p.1.2.1 % lN, p.1.2.2.1 % lN, lm p.1.2.2.2.1, lm p.1.2.2.2.2))
def Tref : Table := T0.add 59 cIts
theorem keepTref : AllKeep Tryd.prog GT Tref := keepT0.add keepsIts
theorem ok_lm (l : List Nat) : ∀ x ∈ lm l, okS x := fun x hx => by
  obtain ⟨y, _, rfl⟩ := List.mem_map.1 hx
  exact lm_lt y
theorem lm_take (l : List Nat) (k : Nat) (h : k < l.length) : (lm (l.take (k + 1))).flatMap encE = (lm (l.take k)).flatMap encE ++ encE (l[k] % lN) := by
  unfold lm
  rw [List.take_succ_eq_append_getElem h, List.map_append, List.flatMap_append]; simp
/-- One list of a document's set is set anew. -/
theorem ask_updG {K : Value → Prop} {b bl q : Nat} {g h x : Value} (hx : x.oneCell' = true) : Ask (rUpd (aggArr (RSetV b bl (encE q) g h)) 79 1 x) K = K (RSetV b bl (encE q) x h) := by
  refine ask_eq fun v => ?_
  have hc : x.cells = #[x] := by cases x <;> first | rfl | cases hx
  have e : RSetV b bl (encE q) x h = .agg (splice (aggArr (RSetV b bl (encE q) g h)) 79 x.cells.toList) := by rw [hc]; rfl
  unfold rUpd
  rw [e]
  exact ⟨fun h => h.2.2.2, fun h => ⟨by show 79 + 1 ≤ 81; omega, by rw [hc]; rfl, by rw [hc]; simp [hx], h⟩⟩
theorem ask_updH {K : Value → Prop} {b bl q : Nat} {g h x : Value} (hx : x.oneCell' = true) : Ask (rUpd (aggArr (RSetV b bl (encE q) g h)) 80 1 x) K = K (RSetV b bl (encE q) g x) := by
  refine ask_eq fun v => ?_
  have hc : x.cells = #[x] := by cases x <;> first | rfl | cases hx
  have e : RSetV b bl (encE q) g x = .agg (splice (aggArr (RSetV b bl (encE q) g h)) 80 x.cells.toList) := by rw [hc]; rfl
  unfold rUpd
  rw [e]
  exact ⟨fun h => h.2.2.2, fun h => ⟨by show 80 + 1 ≤ 81; omega, by rw [hc]; rfl, by rw [hc]; simp [hx], h⟩⟩
theorem ask_aggR {K : Value → Prop} {b bl q : Nat} {g h : Value} (hg : g.oneCell' = true) (hh : h.oneCell' = true) : Ask (rAgg 81 (RSetV b bl (encE q) g h)) K = K (RSetV b bl (encE q) g h) :=
  ask_agg rfl (by simp only [List.all_toArray, List.all_append, List.all_cons, List.all_nil, one_encE, hg, hh, oneJ2, Bool.and_true])
theorem all_kb3 {a b c d : Nat} {x y z : Nat} {v1 v2 v3 : Array Value} (h1 : (a != d) = true) (h2 : (b != d) = true) (h3 : (c != d) = true) : ([⟨x, true, a, v1⟩, ⟨y, true, b, v2⟩, ⟨z, true, c, v3⟩] : List KB).all (fun kb => kb.own && kb.ty != d) = true := by simp [h1, h2, h3]

theorem keepsRef : Keeps1 Tryd.prog GT 19 cRef := by
  refine keepsW (T := Tref) (A := ann19) hMix keepTref hGT (fun f hf => by
      simp only [ann19, List.mem_cons, List.not_mem_nil, or_false] at hf
      subst hf; intros; kernel_rfl) (fun f hf => by cases hf) fun args ⟨⟨b, bl, q, G, H⟩, _⟩ w0 hrd hpre _ => ?_
  obtain ⟨_, rfl, ⟨g, h, rfl, ob, obl, oq, hg, hh⟩⟩ := hrd
  dsimp only at hpre ob obl oq hg hh
  refine ⟨[.x (.v 0), .x (.c (J 2))], [], [], 2, env0 [SetV b bl q g h] w0, fun b => b, 0, rfl, rfl, fun X hX => mem_none hX rfl, fun X hP hS hw hX hR => ?_⟩
  subst hw; dsimp only at hR
  replace hg : Ls encS okS X.w0 g G := hg
  replace hh : Ls encS okS X.w0 h H := hh
  have og := hg.2; have oh := hh.2
  replace hg := hg.1; replace hh := hh.1
  rw [vc19 X]
  refine a_agg rfl (by simp [one_encS, slAt_one hg, slAt_one hh]) ?_
  iterate 14 refine a_sel1 rfl ?_
  intro b0 _ b1 _
  have fold : ∀ n, Value.agg #[U (lb n 0), U (lb n 1), U (lb n 2), U (lb n 3)] = S n := fun _ => rfl
  rw [fold, fold, fold]
  refine call_PE hS (T := Tref) (f := 59) rfl b ob ?_
  refine call_PE hS (T := Tref) (f := 59) rfl bl obl ?_
  refine call_PE hS (T := Tref) (f := 59) rfl q oq ?_
  refine a_bld ([J 2] ++ encE (b % lN) ++ encE (bl % lN) ++ encE (q % lN) ++ [Value.slice none 0 0, Value.slice none 0 0]).toArray hP (by kernel_rfl) ?_
  intro b2 _
  have foldR : Value.agg ([J 2] ++ encE (b % lN) ++ encE (bl % lN) ++ encE (q % lN) ++ [Value.slice none 0 0, Value.slice none 0 0]).toArray = RSetV (b % lN) (bl % lN) (encE (q % lN)) (.slice none 0 0) (.slice none 0 0) := rfl
  rw [foldR, ask_aggR rfl rfl]
  refine ⟨fun a w => ∃ (k B : Nat) (o : Value), a = [J k, RSetV (b % lN) (bl % lN) (encE (q % lN)) o (.slice none 0 0)] ∧ k ≤ G.length ∧ b1 < B ∧ b2 < B ∧ X.w0.heap.size ≤ B ∧ B ≤ w.heap.size ∧ w.ownsRow B 39 26 o k ((lm (G.take k)).flatMap encE) ∧ Kn X w, fun a _ => match a with | [i, _] => G.length - intNat i | _ => 0,
    fun w hw => ⟨0, w.heap.size, _, rfl, Nat.zero_le _, hw.low (by simp [kb19_0]), hw.low (by simp [kb19_0]), hw.sz0, Nat.le_refl _, World.ownsRow_nil _ _ _ _, hw.kn⟩, ?_⟩
  rintro _ _ w ⟨k, B, o, he, hk, hB1, hB2, hB0, hB, ho, hkn⟩
  simp only [List.cons.injEq, and_true] at he
  obtain ⟨rfl, rfl⟩ := he
  refine a_len hP tyS hg ?_
  rw [ask_lssN]
  refine a_ifD (fun hlt => ?_) fun hge => ?_
  · have hl' := hg.stp0 (hkn.stp0 hX)
    have hka : G[k]? = some G[k] := List.getElem?_eq_getElem hlt
    refine a_sel1 (v := o) rfl ?_
    refine a_iadN hP tyS hl' hlt ?_
    refine a_load_agg (cs := encS G[k]) hkn hl' (by rw [hP]; exact aggS) (by rw [hP]; exact szS) (fun _ _ => List.not_mem_nil) (by simp [encS]) (flat_at encS_len G k _ hka) ?_
    refine call_PE hS (T := Tref) (f := 59) rfl G[k] (og _ (List.getElem_mem _)) ?_
    refine a_push (encE (G[k] % lN)).toArray hX hP tyE rfl rfl (by decide) (by decide) (by decide) (by kernel_rfl) rfl (one_encE' _) (by rfl) hB0 hB ho (by simp only [maxLen, mx] at *; omega) (by simp only [mx] at *; omega) fun o' w' k' s' ho' _ => ?_
    rw [ask_updG (own_one ho'), ask_succ (by simp only [mx] at *; omega)]
    intro w2 hw2
    refine ⟨⟨k + 1, B, o', rfl, hlt, hB1, hB2, hB0, Nat.le_trans hB (Nat.le_trans s'.size hw2.size), ?_, hw2.kn⟩, by simp [intNat]; omega⟩
    rw [lm_take G k hlt]
    exact own_stp ho' hw2.stp (off_own ho' (all1 hB2))
  · obtain rfl : k = G.length := by omega
    rw [List.take_of_length_le (Nat.le_refl _)] at ho
    refine ⟨fun a w => ∃ (k B' : Nat) (o' : Value), a = [J k, RSetV (b % lN) (bl % lN) (encE (q % lN)) o o'] ∧ k ≤ H.length ∧ B ≤ B' ∧ B' ≤ w.heap.size ∧ (∀ x, o.ownBlock = some x → x < B') ∧ w.ownsRow B 39 26 o G.length ((lm G).flatMap encE) ∧ w.ownsRow B' 39 26 o' k ((lm (H.take k)).flatMap encE) ∧ Kn X w, fun a _ => match a with | [i, _] => H.length - intNat i | _ => 0,
      fun w2 hw2 => ⟨0, w2.heap.size, _, rfl, Nat.zero_le _, Nat.le_trans hB hw2.size, Nat.le_refl _, fun x hx => ((own_stp0 ho hw2.stp).lt x hx).2, own_stp0 ho hw2.stp, World.ownsRow_nil _ _ _ _, hw2.kn⟩, ?_⟩
    rintro _ _ w2 ⟨k, B', o', he, hk, hBB, hB', hlo, ho1, ho2, hkn2⟩
    simp only [List.cons.injEq, and_true] at he
    obtain ⟨rfl, rfl⟩ := he
    have oo := own_one ho1; have oo' := own_one ho2
    refine a_len hP tyS hh ?_
    rw [ask_lssN]
    refine a_ifD (fun hlt => ?_) fun hge => ?_
    · have hl' := hh.stp0 (hkn2.stp0 hX)
      have hka : H[k]? = some H[k] := List.getElem?_eq_getElem hlt
      refine a_sel1 (v := o') rfl ?_
      refine a_iadN hP tyS hl' hlt ?_
      refine a_load_agg (cs := encS H[k]) hkn2 hl' (by rw [hP]; exact aggS) (by rw [hP]; exact szS) (fun _ _ => List.not_mem_nil) (by simp [encS]) (flat_at encS_len H k _ hka) ?_
      refine call_PE hS (T := Tref) (f := 59) rfl H[k] (oh _ (List.getElem_mem _)) ?_
      refine a_push (encE (H[k] % lN)).toArray hX hP tyE rfl rfl (by decide) (by decide) (by decide) (by kernel_rfl) rfl (one_encE' _) (by rfl) (Nat.le_trans hB0 hBB) hB' ho2 (by simp only [maxLen, mx] at *; omega) (by simp only [mx] at *; omega) fun o2 w' k' s' ho' _ => ?_
      rw [ask_updH (own_one ho'), ask_succ (by simp only [mx] at *; omega)]
      intro w3 hw3
      have apart : ∀ x, o.ownBlock = some x → x ∉ o'.ownBlock.toList := fun x hx hm => by
        have h1 := hlo x hx
        have h2 := (ho2.lt x (by simpa using hm)).1
        omega
      refine ⟨⟨k + 1, B', o2, rfl, hlt, hBB, Nat.le_trans hB' (Nat.le_trans s'.size hw3.size), hlo, own_stp (own_stp ho1 s' apart) hw3.stp (off_own ho1 (all1 hB2)), ?_, hw3.kn⟩, by simp [intNat]; omega⟩
      rw [lm_take H k hlt]
      exact own_stp ho' hw3.stp (off_own ho' (all1 (by omega)))
    · obtain rfl : k = H.length := by omega
      rw [List.take_of_length_le (Nat.le_refl _)] at ho2
      rw [ask_aggR oo oo']
      refine hR _ _ _ _ fun w3 hw3 => ?_
      refine ⟨o, o', rfl, lm_lt b, lm_lt bl, lm_lt q, ⟨?_, ok_lm G⟩, ⟨?_, ok_lm H⟩⟩
      · have := own_at ho1 (all1 hB1) hw3.stp
        simpa [lm] using this
      · have := own_at ho2 (all1 (show b1 < B' by omega)) hw3.stp
        simpa [lm] using this
end Go.Vc
