/-
  Sums of terms over lists of scalars (msm.Free): CommitVectors.
-/
import Derived.Test.YtapkkciimlffnaaDoorDGb2
namespace Go.Vc
open Go Go.Proofs Go.RowKit

theorem aggFrG : agg? Tryd.prog 47 = some true := by kernel_rfl
theorem szFrG : sz Tryd.prog 47 = some 1 := by kernel_rfl
theorem flat_pushT (ps : List (Nat × Value)) (p : Nat × Value) : ps.flatMap enc5 ++ enc5 p = (ps ++ [p]).flatMap enc5 := by rw [List.flatMap_append]; simp
/-- Place by place. -/
def P2 {α β : Type} (R : α → β → Prop) (l : List α) (m : List β) : Prop := l.length = m.length ∧ ∀ (i : Nat) (p : α) (t : β), l[i]? = some p → m[i]? = some t → R p t
theorem P2.cons {α β : Type} {R : α → β → Prop} {l : List α} {m : List β} {a : α} {b : β} (h : R a b) (k : P2 R l m) : P2 R (a :: l) (b :: m) :=
  ⟨by simp [k.1], fun i p t hp ht => by
    cases i with
    | zero => simp at hp ht; subst hp ht; exact h
    | succ i => exact k.2 i p t (by simpa using hp) (by simpa using ht)⟩
theorem P2.append {α β : Type} {R : α → β → Prop} {l l' : List α} {m m' : List β} (h : P2 R l m) (k : P2 R l' m') : P2 R (l ++ l') (m ++ m') :=
  ⟨by simp [h.1, k.1], fun i p t hp ht => by
    rcases Nat.lt_or_ge i l.length with hi | hi
    · rw [List.getElem?_append_left hi] at hp
      rw [List.getElem?_append_left (by rw [← h.1]; exact hi)] at ht
      exact h.2 i p t hp ht
    · rw [List.getElem?_append_right hi] at hp
      rw [List.getElem?_append_right (by rw [← h.1]; exact hi), ← h.1] at ht
      exact k.2 _ p t hp ht⟩
abbrev RelT (w : World) (p : Nat × Value) (t : Nat × List Nat) : Prop := p.1 = t.1 ∧ okS t.1 ∧ Ls encS okS w p.2 t.2
theorem p2_zip {w : World} {a : List Nat} {vs : List Value} {G : List (List Nat)} (hl : vs.length = G.length) (ha : ∀ x ∈ a, okS x) (h : ∀ (i : Nat) (x : Value) (l : List Nat), vs[i]? = some x → G[i]? = some l → Ls encS okS w x l) : P2 (RelT w) (List.zip a vs) (List.zip a G) :=
  ⟨by simp [hl], fun i p t hp ht => by
    rw [List.getElem?_zip_eq_some] at hp ht
    have e : p.1 = t.1 := Option.some.inj (hp.1.symm.trans ht.1)
    exact ⟨e, ha _ (List.mem_of_getElem? ht.1), h i _ _ hp.2 ht.2⟩⟩
/-- The terms of a commitment of two lists. -/
def cvT (bl : List Nat) (G H : List (List Nat)) (a b : List Nat) (k : Nat) : List (Nat × List Nat) := (k, bl) :: (List.zip a G ++ List.zip b H)
structure CvA where
  bl : List Nat
  G : List (List Nat)
  H : List (List Nat)
  a : List Nat
  b : List Nat
  k : Nat
def cCv : Cods CvA := ⟨fun w l p => ∃ x y z g h xa xb, l = [.agg #[x, y, z, g, h], xa, xb, S p.k] ∧ (x.oneCell' = true ∧ z.oneCell' = true) ∧ cLS.rd w y p.bl ∧ (cLL cLS).rd w g p.G ∧ (cLL cLS).rd w h p.H ∧ cLS.rd w xa p.a ∧ cLS.rd w xb p.b ∧ okS p.k,
  fun w l ⟨bl, G, H, a, b, k⟩ ⟨bl', G', H', a', b', k'⟩ ⟨x, y, z, g, h, xa, xb, e, _, h1, h2, h3, h4, h5, h6⟩ ⟨x', y', z', g', h', xa', xb', e', _, k1, k2, k3, k4, k5, k6⟩ => by
  dsimp only at e h1 h2 h3 h4 h5 h6 e' k1 k2 k3 k4 k5 k6
  rw [e] at e'
  simp only [List.cons.injEq, Value.agg.injEq, and_true] at e'
  obtain ⟨e1, rfl, rfl, e3⟩ := e'
  have e1 := congrArg Array.toList e1
  simp only [List.cons.injEq, and_true] at e1
  obtain ⟨rfl, rfl, rfl, rfl, rfl⟩ := e1
  rw [cLS.inj _ _ _ _ h1 k1, (cLL cLS).inj _ _ _ _ h2 k2, (cLL cLS).inj _ _ _ _ h3 k3, cLS.inj _ _ _ _ h4 k4, cLS.inj _ _ _ _ h5 k5, S_inj h6 k6 e3]⟩
def cCvF : Contract := fnW cCv (fun p _ => 1 + p.G.length + p.H.length < 24 ∧ p.bl.length ≤ mx ∧ (∀ l ∈ p.G, l.length ≤ mx) ∧ (∀ l ∈ p.H, l.length ≤ mx))
  (fun p w v w' => ((p.G.length < p.a.length ∨ p.H.length < p.b.length) → v = .tuple #[.agg #[.slice none 0 0], J 2]) ∧
    (¬ (p.G.length < p.a.length ∨ p.H.length < p.b.length) → ∃ x, v = .tuple #[.agg #[x], J 0] ∧ w'.ownsRow w.heap.size 34 4 x (plainF (cvT p.bl p.G p.H p.a p.b p.k)).length ((plainF (cvT p.bl p.G p.H p.a p.b p.k)).flatMap encS)))
def ann26 : Ann := ⟨[(6, ([11, 38], [])), (11, ([11, 56], []))], [], 70, [(44, false)], [7, 13, 15], none, [], []⟩
def kb26_0 (b0 b1 b2 b3 : Nat) (x6 x7 x8 x9 x10 x11 : Value) : List KB := [⟨b0, true, 50, #[x6, x7, x8, x9, x10]⟩, ⟨b1, true, 34, (aggArr x11)⟩, ⟨b2, true, 47, #[(.slice none 0 0)]⟩, ⟨b3, true, 47, #[(.slice none 0 0)]⟩]
def kb26_1 (b0 b1 b2 b3 b4 : Nat) (x6 x7 x8 x9 x10 x11 x33 : Value) : List KB := [⟨b0, true, 50, #[x6, x7, x8, x9, x10]⟩, ⟨b1, true, 34, (aggArr x11)⟩, ⟨b2, true, 47, #[(.slice none 0 0)]⟩, ⟨b3, true, 47, #[(.slice none 0 0)]⟩, ⟨b4, true, 34, (aggArr x33)⟩]
def kb26_2 (b0 b1 b2 b3 b4 : Nat) (x6 x7 x8 x9 x10 x11 x38 : Value) : List KB := [⟨b0, true, 50, #[x6, x7, x8, x9, x10]⟩, ⟨b1, true, 34, (aggArr x11)⟩, ⟨b2, true, 47, #[(.slice none 0 0)]⟩, ⟨b3, true, 47, #[(.slice none 0 0)]⟩, ⟨b4, true, 34, (aggArr x38)⟩]
theorem vc26 (X : Ctx) (β : Nat → Nat) (x0 x1 x2 x3 : Value) : (run Tryd.prog ann26 26 [.x (.v 0), .x (.v 1), .x (.v 2), .x (.v 3)] [] [] 5).den X (env0 [x0, x1, x2, x3] X.w0) 5 β 0 (fun _ _ _ => False) = (
  Ask (rAgg 5 x0) fun x5 =>
  Ask (rSel (aggArr x5) 0 1 false) fun x6 =>
  Ask (rSel (aggArr x5) 1 1 false) fun x7 =>
  Ask (rSel (aggArr x5) 2 1 false) fun x8 =>
  Ask (rSel (aggArr x5) 3 1 false) fun x9 =>
  Ask (rSel (aggArr x5) 4 1 false) fun x10 =>
  AskNew X.w0 fun b0 =>
  Ask (rAgg 4 x3) fun x11 =>
  AskNew X.w0 fun b1 =>
  AskNew X.w0 fun b2 =>
  AskNew X.w0 fun b3 =>
  Ask (rLen X.P 25 x1) fun x12 =>
  Ask (rLen X.P 48 x9) fun x13 =>
  Ask (rBin X.P .gtr 3 false false x12 x13) fun x14 =>
  AskG [(x14, false)] (rLen X.P 25 x2) fun x15 =>
  AskG [(x14, false)] (rLen X.P 48 x10) fun x16 =>
  AskG [(x14, false)] (rBin X.P .gtr 3 false false x15 x16) fun x17 =>
  Ask (rPick x14 (.bool true) x17) fun x18 =>
  (∃ t, x18 = .bool t) ∧ (x18 = .bool true →
    Ret X X.w0 [b2] [] (.tuple #[(.agg #[(.slice none 0 0)]), (J 2)])) ∧ (x18 = .bool false →
    Ask (rAgg 4 x11) fun x19 =>
    Ask (rSel (aggArr x19) 0 1 false) fun x20 =>
    Ask (rSel (aggArr x19) 1 1 false) fun x21 =>
    Ask (rSel (aggArr x19) 2 1 false) fun x22 =>
    Ask (rSel (aggArr x19) 3 1 false) fun x23 =>
    AskO X X.w0 [] (kb26_0 b0 b1 b2 b3 x6 x7 x8 x9 x10 x11) false (Go.Op.buildSlice 90 1 #[(0, Go.Operand.tmp 34)]) 90 [(34, (.agg #[x20, x21, x22, x23, x7]))] fun x24 w24 =>
    Ask (rLen X.P 25 x1) fun x25 =>
    ∃ (I0 : List Value → World → Prop) (μ0 : List Value → World → Nat), (∀ w, KnownV X w24 [] (kb26_0 b0 b1 b2 b3 x6 x7 x8 x9 x10 x11) w → I0 [x24, (J 0)] w) ∧ ∀ x26 x27 w28, I0 [x26, x27] w28 →
      Ask (rBin X.P .lss 3 false false x27 x25) fun x29 =>
      (∃ t, x29 = .bool t) ∧ (x29 = .bool true →
        Ask (rIad X.P 25 x1 x27) fun x30 =>
        Ask (rLoad X w28 [] 34 x30) fun x31 =>
        Ask (rAgg 4 (.agg #[(U 0), (U 0), (U 0), (U 0)])) fun _ =>
        AskNew w28 fun b4 =>
        Ask (rAgg 4 x31) fun x33 =>
        Ask (rIad X.P 48 x9 x27) fun x34 =>
        Ask (rLoad X w28 [b4] 47 x34) fun x35 =>
        Ask (rAgg 4 x33) fun x36 =>
        Ask (rSel (aggArr x36) 0 1 false) fun x37 =>
        Ask (rSel (aggArr x36) 1 1 false) fun x38 =>
        Ask (rSel (aggArr x36) 2 1 false) fun x39 =>
        Ask (rSel (aggArr x36) 3 1 false) fun x40 =>
        Ask (rAgg 1 x35) fun x41 =>
        Ask (rSel (aggArr x41) 0 1 false) fun x42 =>
        AskO X w28 [b4] (kb26_1 b0 b1 b2 b3 b4 x6 x7 x8 x9 x10 x11 x33) false (Go.Op.buildSlice 90 1 #[(0, Go.Operand.tmp 50)]) 90 [(50, (.agg #[x37, x38, x39, x40, x42]))] fun x43 w43 =>
        AskO X w43 [] (kb26_1 b0 b1 b2 b3 b4 x6 x7 x8 x9 x10 x11 x33) true (appOp (.tmp 43) (.tmp 51) 90) 90 [(43, x26), (51, x43)] fun x44 w44 =>
        Ask (rBin X.P .add 3 false true x27 (J 1)) fun x45 =>
        Again X w44 [] [] fun w => I0 [x44, x45] w ∧ μ0 [x44, x45] w < μ0 [x26, x27] w28) ∧ (x29 = .bool false →
        Ask (rLen X.P 25 x2) fun x30 =>
        ∃ (I0 : List Value → World → Prop) (μ0 : List Value → World → Nat), (∀ w, KnownV X w28 [] (kb26_0 b0 b1 b2 b3 x6 x7 x8 x9 x10 x11) w → I0 [x26, (J 0)] w) ∧ ∀ x31 x32 w33, I0 [x31, x32] w33 →
          Ask (rBin X.P .lss 3 false false x32 x30) fun x34 =>
          (∃ t, x34 = .bool t) ∧ (x34 = .bool true →
            Ask (rIad X.P 25 x2 x32) fun x35 =>
            Ask (rLoad X w33 [] 34 x35) fun x36 =>
            Ask (rAgg 4 (.agg #[(U 0), (U 0), (U 0), (U 0)])) fun _ =>
            AskNew w33 fun b4 =>
            Ask (rAgg 4 x36) fun x38 =>
            Ask (rIad X.P 48 x10 x32) fun x39 =>
            Ask (rLoad X w33 [b4] 47 x39) fun x40 =>
            Ask (rAgg 4 x38) fun x41 =>
            Ask (rSel (aggArr x41) 0 1 false) fun x42 =>
            Ask (rSel (aggArr x41) 1 1 false) fun x43 =>
            Ask (rSel (aggArr x41) 2 1 false) fun x44 =>
            Ask (rSel (aggArr x41) 3 1 false) fun x45 =>
            Ask (rAgg 1 x40) fun x46 =>
            Ask (rSel (aggArr x46) 0 1 false) fun x47 =>
            AskO X w33 [b4] (kb26_2 b0 b1 b2 b3 b4 x6 x7 x8 x9 x10 x11 x38) false (Go.Op.buildSlice 90 1 #[(0, Go.Operand.tmp 68)]) 90 [(68, (.agg #[x42, x43, x44, x45, x47]))] fun x48 w48 =>
            AskO X w48 [] (kb26_2 b0 b1 b2 b3 b4 x6 x7 x8 x9 x10 x11 x38) true (appOp (.tmp 61) (.tmp 69) 90) 90 [(61, x31), (69, x48)] fun x49 w49 =>
            Ask (rBin X.P .add 3 false true x32 (J 1)) fun x50 =>
            Again X w49 [] [] fun w => I0 [x49, x50] w ∧ μ0 [x49, x50] w < μ0 [x31, x32] w33) ∧ (x34 = .bool false →
            AskW X w33 [] (kb26_0 b0 b1 b2 b3 x6 x7 x8 x9 x10 x11) false 44 [x31] fun x35 w35 =>
            Ask (rAgg 1 x35) fun x36 =>
            Ask (rSel (aggArr x36) 0 1 false) fun x37 =>
            Ret X w35 [b2] [] (.tuple #[(.agg #[x37]), (J 0)]))))) := by kernel_rfl
theorem keepsCvF : Keeps1 Tryd.prog GT 26 cCvF := by
  refine keepsW (T := Tgm) (A := ann26) hMix keepTgm hGT (calls_of (by kernel_rfl)) (callsW_of (by kernel_rfl)) fun args ⟨bl, G, H, la, lb', k⟩ w0 hrd hpre hg => ?_
  obtain ⟨x, y, z, g, h, xa, xb, rfl, ⟨ox, oz⟩, hy, ⟨vs, hg, hvl, hve⟩, ⟨us, hh, hul, hue⟩, ha, hb, hk⟩ := hrd
  dsimp only at hy hg hvl hve hh hul hue ha hb hk hpre
  replace hy : Ls encS okS w0 y bl := hy
  replace ha : Ls encS okS w0 xa la := ha
  replace hb : Ls encS okS w0 xb lb' := hb
  obtain ⟨hsz, hbl, hG, hH⟩ := hpre
  refine ⟨[.x (.v 0), .x (.v 1), .x (.v 2), .x (.v 3)], [], [], 5, env0 [.agg #[x, y, z, g, h], xa, xb, S k] w0, fun b => b, 0, rfl, rfl, fun X hX => mem_none hX rfl, fun X hP hS hw hX hR => ?_⟩
  subst hw; try dsimp only at hR
  rw [vc26 X]
  refine a_agg (cs := [x, y, z, g, h]) rfl (by simp [ox, slAt_one hy.1, oz, slAt_one hg, slAt_one hh]) ?_
  iterate 5 refine a_sel1 rfl ?_
  intro b0 hb0
  rw [ask_aggS]; intro b1 hb1 b2 hb2 b3 hb3
  refine a_len hP tyS' ha.1 ?_
  refine a_len hP tyFree hg ?_
  rw [ask_gtrN]
  have bad : (G.length < la.length ∨ H.length < lb'.length) → ∀ u ow bl', Ret X u ow bl' (.tuple #[.agg #[.slice none 0 0], J 2]) := fun hlt u ow bl' => hR _ _ _ _ fun w _ => ⟨fun _ => rfl, fun h => absurd hlt h⟩
  by_cases hA : G.length < la.length
  · rw [decide_eq_true hA]
    iterate 3 refine a_G_off (condsV1_not (by decide)) fun _ => ?_
    rw [ask_pickT]
    exact a_if (fun _ => bad (.inl hA) _ _ _) fun h => by cases h
  rw [decide_eq_false hA]
  refine a_G_on condsV1 (a_len hP tyS' hb.1 ?_)
  refine a_G_on condsV1 (a_len hP tyFree hh ?_)
  refine a_G_on condsV1 ?_
  rw [ask_gtrN, ask_pickF]
  refine a_ifD (fun hB => bad (.inr hB) _ _ _) fun hB => ?_
  rw [ask_aggS, ask_selS0, ask_selS1, ask_selS2, ask_selS3]
  have hA' : la.length ≤ G.length := Nat.le_of_not_lt hA
  have hB' : lb'.length ≤ H.length := Nat.le_of_not_lt hB
  refine a_build (enc5 (k, y)).toArray hX hP tyTF (by decide) (by decide) (by kernel_rfl) rfl (by decide) fun q w1 w1' h1 k1 s1 su1 o1 => ?_
  have o1' : w1'.ownsRow w1.heap.size 89 5 (.slice (some ⟨q, 0, none⟩) 1 1) [(k, y)].length ([(k, y)].flatMap enc5) := by simpa using o1
  have z1 := s1.size
  refine a_len hP tyS' ha.1 ?_
  have hq1 : [(k, y)].length + la.length ≤ 23 := by simp only [List.length_cons, List.length_nil]; omega
  refine ⟨fun a w => ∃ (i : Nat) (o : Value) (B : Nat), a = [o, J i] ∧ i ≤ la.length ∧ X.w0.heap.size ≤ B ∧ B ≤ w.heap.size ∧ Kn X w ∧ w.ownsRow B 89 5 o ([(k,y)].length + i) (([(k,y)] ++ (List.zip la vs).take i).flatMap enc5), fun a _ => match a with | [_, i] => la.length - intNat i | _ => 0,
    fun w hw => ⟨0, _, _, rfl, Nat.zero_le _, h1.sz0, Nat.le_trans z1 hw.size, hw.kn, by simpa using own_stp0 o1' hw.stp⟩, ?_⟩
  rintro _ _ w1 ⟨i, o, B, he, hi, hB0, hBw, hk1, ho1⟩
  simp only [List.cons.injEq, and_true] at he
  obtain ⟨rfl, rfl⟩ := he
  have zl1 : (List.zip la vs).length = la.length := by simp; omega
  rw [ask_lssN]
  refine a_ifD (fun hlt => ?_) fun hge => ?_
  · have hl' := ha.1.stp0 (hk1.stp0 hX)
    have hg' := hg.stp0 (hk1.stp0 hX)
    refine a_iadN hP tyS' hl' hlt ?_
    refine a_load_agg (cs := encS la[i]) hk1 hl' (hP ▸ aggS) (by rw [hP]; exact szS) (fun _ _ => List.not_mem_nil) (by simp [encS]) (flat_at encS_len la i _ (List.getElem?_eq_getElem hlt)) ?_
    rw [agg_encS, ask_zero4]; intro b4 hb4
    rw [ask_aggS]
    refine a_iadN hP tyFree hg' (by omega) ?_
    have hv : vs[i]? = some (vs[i]'(by omega)) := List.getElem?_eq_getElem (by omega)
    refine a_load_agg (cs := [vs[i]'(by omega)]) hk1 hg' (by rw [hP]; exact aggFrG) (by rw [hP]; exact szFrG) (slAt_off hg' (by omega) (all1 hb4)) (by simp) (fun j c hj => by
      match j, hj with
      | 0, hj => simp only [List.getElem?_cons_zero, Option.some.injEq] at hj; subst hj; rw [Nat.mul_one, Nat.add_zero]; exact hv) ?_
    rw [ask_aggS, ask_selS0, ask_selS1, ask_selS2, ask_selS3]
    have hGi : (G)[i]? = some ((G)[i]'(by omega)) := List.getElem?_eq_getElem (by omega)
    have one_v : (vs[i]'(by omega)).oneCell' = true := slAt_one (show Ls encS okS X.w0 _ _ from hve i _ _ hv hGi).1
    refine a_agg (cs := [vs[i]'(by omega)]) rfl (by simp [one_v]) (a_sel1 rfl ?_)
    refine a_build (enc5 (la[i], vs[i]'(by omega))).toArray hX hP tyTF (by decide) (by decide) (by kernel_rfl) rfl (by decide) fun q w1 w1' h1 k1 s1 su1 o1 => ?_
    have ho1 := own_stp ho1 su1 (own_off ho1 (all1 hb4))
    have zs := su1.size
    refine a_append (n := [(k,y)].length + i) (m := 1) hX hP tyTF rfl rfl rfl (by decide) hB0 (by omega) ho1 (fun w2 hw2 => (own_slAt o1).stp0 hw2.stp) rfl (fun c hc => List.all_eq_true.1 (one_enc5 (p := (la[i], vs[i]'(by omega))) one_v) c (by simpa using hc)) (fun _ _ => List.not_mem_nil) (fun w2 hw2 => own_not_kb hw2 (own_stp0 ho1 hw2.stp) rfl)
      (by simp only [maxLen]; omega) (by omega) fun o' w2 w2' h2 k2 s2 su2 o2 _ => ?_
    have zs2 := su2.size
    rw [ask_succ (by omega)]
    intro w3 hw3
    refine ⟨⟨i + 1, o', B, rfl, hlt, hB0, by have := hw3.size; omega, hw3.kn, ?_⟩, by simp [intNat]; omega⟩
    have e : ([(k,y)] ++ (List.zip la vs).take i).flatMap enc5 ++ (enc5 (la[i], vs[i]'(by omega))).toArray.toList = ([(k,y)] ++ (List.zip la vs).take (i + 1)).flatMap enc5 := by
      rw [List.take_add_one, List.getElem?_eq_getElem (by omega), List.getElem_zip]
      show _ ++ enc5 _ = _
      rw [flat_pushT, List.append_assoc]
      rfl
    rw [e] at o2
    exact own_stp0 o2 hw3.stp
  obtain rfl : i = la.length := by omega
  have ek1 : (List.zip la vs).take la.length = List.zip la vs := List.take_of_length_le (by omega)
  rw [ek1] at ho1
  obtain ⟨pp, hpp⟩ : ∃ pp : List (Nat × Value), pp = [(k, y)] ++ List.zip la vs := ⟨_, rfl⟩
  have hpl : [(k, y)].length + la.length = pp.length := by rw [hpp, List.length_append, zl1]
  rw [hpl, ← hpp] at ho1
  have hq2 : pp.length + lb'.length ≤ 23 := by rw [← hpl]; simp only [List.length_cons, List.length_nil]; omega
  refine a_len hP tyS' hb.1 ?_
  refine ⟨fun a w => ∃ (i : Nat) (o : Value) (B : Nat), a = [o, J i] ∧ i ≤ lb'.length ∧ X.w0.heap.size ≤ B ∧ B ≤ w.heap.size ∧ Kn X w ∧ w.ownsRow B 89 5 o (pp.length + i) ((pp ++ (List.zip lb' us).take i).flatMap enc5), fun a _ => match a with | [_, i] => lb'.length - intNat i | _ => 0,
    fun w hw => ⟨0, _, _, rfl, Nat.zero_le _, hB0, Nat.le_trans hBw hw.size, hw.kn, by simpa using own_stp0 ho1 hw.stp⟩, ?_⟩
  rintro _ _ w2 ⟨i, o, B, he, hi, hB0, hBw, hk2, ho2⟩
  simp only [List.cons.injEq, and_true] at he
  obtain ⟨rfl, rfl⟩ := he
  have zl2 : (List.zip lb' us).length = lb'.length := by simp; omega
  rw [ask_lssN]
  refine a_ifD (fun hlt => ?_) fun hge => ?_
  · have hl' := hb.1.stp0 (hk2.stp0 hX)
    have hg' := hh.stp0 (hk2.stp0 hX)
    refine a_iadN hP tyS' hl' hlt ?_
    refine a_load_agg (cs := encS lb'[i]) hk2 hl' (hP ▸ aggS) (by rw [hP]; exact szS) (fun _ _ => List.not_mem_nil) (by simp [encS]) (flat_at encS_len lb' i _ (List.getElem?_eq_getElem hlt)) ?_
    rw [agg_encS, ask_zero4]; intro b4 hb4
    rw [ask_aggS]
    refine a_iadN hP tyFree hg' (by omega) ?_
    have hv : us[i]? = some (us[i]'(by omega)) := List.getElem?_eq_getElem (by omega)
    refine a_load_agg (cs := [us[i]'(by omega)]) hk2 hg' (by rw [hP]; exact aggFrG) (by rw [hP]; exact szFrG) (slAt_off hg' (by omega) (all1 hb4)) (by simp) (fun j c hj => by
      match j, hj with
      | 0, hj => simp only [List.getElem?_cons_zero, Option.some.injEq] at hj; subst hj; rw [Nat.mul_one, Nat.add_zero]; exact hv) ?_
    rw [ask_aggS, ask_selS0, ask_selS1, ask_selS2, ask_selS3]
    have hGi : (H)[i]? = some ((H)[i]'(by omega)) := List.getElem?_eq_getElem (by omega)
    have one_v : (us[i]'(by omega)).oneCell' = true := slAt_one (show Ls encS okS X.w0 _ _ from hue i _ _ hv hGi).1
    refine a_agg (cs := [us[i]'(by omega)]) rfl (by simp [one_v]) (a_sel1 rfl ?_)
    refine a_build (enc5 (lb'[i], us[i]'(by omega))).toArray hX hP tyTF (by decide) (by decide) (by kernel_rfl) rfl (by decide) fun q w1 w1' h1 k1 s1 su1 o1 => ?_
    have ho1 := own_stp ho2 su1 (own_off ho2 (all1 hb4))
    have zs := su1.size
    refine a_append (n := pp.length + i) (m := 1) hX hP tyTF rfl rfl rfl (by decide) hB0 (by omega) ho1 (fun w2 hw2 => (own_slAt o1).stp0 hw2.stp) rfl (fun c hc => List.all_eq_true.1 (one_enc5 (p := (lb'[i], us[i]'(by omega))) one_v) c (by simpa using hc)) (fun _ _ => List.not_mem_nil) (fun w2 hw2 => own_not_kb hw2 (own_stp0 ho1 hw2.stp) rfl)
      (by simp only [maxLen]; omega) (by omega) fun o' w2 w2' h2 k2 s2 su2 o2 _ => ?_
    have zs2 := su2.size
    rw [ask_succ (by omega)]
    intro w3 hw3
    refine ⟨⟨i + 1, o', B, rfl, hlt, hB0, by have := hw3.size; omega, hw3.kn, ?_⟩, by simp [intNat]; omega⟩
    have e : (pp ++ (List.zip lb' us).take i).flatMap enc5 ++ (enc5 (lb'[i], us[i]'(by omega))).toArray.toList = (pp ++ (List.zip lb' us).take (i + 1)).flatMap enc5 := by
      rw [List.take_add_one, List.getElem?_eq_getElem (by omega), List.getElem_zip]
      show _ ++ enc5 _ = _
      rw [flat_pushT, List.append_assoc]
      rfl
    rw [e] at o2
    exact own_stp0 o2 hw3.stp
  obtain rfl : i = lb'.length := by omega
  have ek2 : (List.zip lb' us).take lb'.length = List.zip lb' us := List.take_of_length_le (by omega)
  rw [ek2] at ho2
  have zt : pp.length + lb'.length = (cvT bl G H la lb' k).length := by
    rw [← hpl]
    simp only [cvT, List.length_cons, List.length_nil, List.length_append, List.length_zip]
    omega
  rw [zt] at ho2
  refine call_W hX hS (T := Tgm) (f := 44) rfl (cvT bl G H la lb' k, ()) (fun w2' hw2' => ⟨⟨_, _, rfl, ⟨pp ++ List.zip lb' us, (own_slAt ho2).stp0 hw2'.stp, by rw [← zt, List.length_append, zl2], ?_⟩, rfl⟩, by rw [← zt]; omega, fun t ht => ?_⟩) fun v w3 w3' h3 k3 s3 su3 hv => ?_
  · have hz := hw2'.kn.stp0 hX
    have r1 : P2 (RelT w2') [(k, y)] [(k, bl)] := P2.cons ⟨rfl, hk, hy.stp0 hz⟩ ⟨rfl, fun i p t h => by simp at h⟩
    have r2 : P2 (RelT w2') (List.zip la vs) (List.zip la G) := p2_zip hvl ha.2 fun i x l hx hl => (show Ls encS okS X.w0 x l from hve i x l hx hl).stp0 hz
    have r3 : P2 (RelT w2') (List.zip lb' us) (List.zip lb' H) := p2_zip hul hb.2 fun i x l hx hl => (show Ls encS okS X.w0 x l from hue i x l hx hl).stp0 hz
    have r := (r1.append r2).append r3
    rw [← hpp] at r
    intro i p t hp ht
    exact r.2 i p t hp (by simpa [cvT] using ht)
  · simp only [cvT, List.mem_cons, List.mem_append] at ht
    rcases ht with rfl | ht | ht
    · exact hbl
    · exact hG _ (List.of_mem_zip ht).2
    · exact hH _ (List.of_mem_zip ht).2
  obtain ⟨y', rfl, o'⟩ := hv
  dsimp only at o'
  have lo := h3.low (b := b2) (by simp [kb26_0])
  refine a_agg (cs := [y']) rfl (by simp [own_one o']) (a_sel1 rfl ?_)
  exact hR _ _ _ _ fun w4 hw4 => ⟨fun hbad => absurd hbad (by omega), fun _ => ⟨_, rfl, own_mono (own_stp o' hw4.stp (off_own o' (all1 lo))) h3.sz0⟩⟩
#print axioms keepsCvF
end Go.Vc
