/-
  Claims of one row over lists of scalars (msm.Free): first, same, Simulate, Accepts.
-/
import Derived.Test.YtapkkciimlffnaaGreatDoorDSs1
namespace Go.Vc
open Go Go.Proofs Go.RowKit

theorem ask_ta {P : Program} {K : Value → Prop} {t xt a ty : Nat} {x r : Value} (h : ∀ w, (Instr.typeAssert x xt t true).run P w = .ok r w) : Ask (rGen P (.typeAssert (.tmp a) xt t true) ty [(a, x)]) K = K r :=
  ask_eq (runsN_iff fun w => by simp [execOp, argsFn, h])

theorem own_some {w : World} {base size n : Nat} {e : TypeId} {v : Value} {xs : List Value} (h : w.ownsRow base e size v n xs) (h0 : 0 < n) : ∃ g, v.ownBlock = some g := by
  rcases h.2 with ⟨_, hn⟩ | ⟨g, cap, cur, rfl, _⟩
  · omega
  · exact ⟨g, rfl⟩

/-! ### first -/
/-- An answer and its challenge, from which the first message is worked back. -/
def cMadeC : Cod ((List (List Nat) × List Nat) × Nat × List Nat) := ⟨fun w v p => ∃ rows images ans, v = .iface 90 (.agg #[rows, images, U (lb p.2.1 0), U (lb p.2.1 1), U (lb p.2.1 2), U (lb p.2.1 3), ans]) ∧ cClF.rd w (.agg #[rows, images]) p.1 ∧ okS p.2.1 ∧ cLS.rd w ans p.2.2,
  fun w v ⟨q, c, a⟩ ⟨q', c', a'⟩ ⟨rows, images, ans, e, h1, h2, h3⟩ ⟨rows', images', ans', e', k1, k2, k3⟩ => by
  dsimp only at e h1 h2 h3 e' k1 k2 k3
  rw [e] at e'
  simp only [Value.iface.injEq, Value.agg.injEq, true_and] at e'
  have e1 := congrArg Array.toList e'
  simp only [List.cons.injEq, and_true] at e1
  obtain ⟨rfl, rfl, l0, l1, l2, l3, rfl⟩ := e1
  have hc : c = c' := S_inj h2 k2 (by show Value.agg #[_, _, _, _] = Value.agg #[_, _, _, _]; rw [l0, l1, l2, l3])
  rw [cClF.inj _ _ _ _ h1 k1, hc, cLS.inj _ _ _ _ h3 k3]⟩
/-- The first message that an answer a to the challenge c asks for. -/
def msgF (G : List (List Nat)) (L : List Nat) (c : Nat) (a : List Nat) : List Nat := trim (addF (plainF (List.zip a G)) (trim (L.map (Fk.mul (subL 0 (c % lN))).op)))
theorem negL_lt (c : Nat) : subL 0 (c % lN) < W256 := (by
  have : subL 0 (c % lN) < lN := subL_lt (by decide)
  exact Nat.lt_trans this (by decide))
theorem msgF_len {n : Nat} (G : List (List Nat)) (L : List Nat) (c : Nat) (a : List Nat) (hG : ∀ l ∈ G, l.length ≤ n) (hL : L.length ≤ n) : (msgF G L c a).length ≤ n :=
  Nat.le_trans (trim_len _) (addF_len _ _ (plainF_len _ (fun _ ht => hG _ (List.of_mem_zip ht).2) _ (Nat.zero_le _)) (Nat.le_trans (trim_len _) (by rw [List.length_map]; exact hL)))
theorem msgF_lt (G : List (List Nat)) (L : List Nat) (c : Nat) (a : List Nat) : ∀ x ∈ msgF G L c a, x < lN := fun _ hx => addF_lt _ _ _ (mem_trimG hx)
theorem missF (x : Value) (w : World) : (Instr.typeAssert (.iface 90 x) 153 155 true).run Tryz.prog w = .ok (.tuple #[.agg #[.slice none 0 0, .slice none 0 0, .slice none 0 0], .bool false]) w := by kernel_rfl
theorem hitF (x : Value) (w : World) : (Instr.typeAssert (.iface 90 x) 153 90 true).run Tryz.prog w = .ok (.tuple #[x, .bool true]) w := by kernel_rfl
theorem makeIM (x : Value) (w : World) : (Instr.makeInterface 90 x).run Tryz.prog w = .ok (.iface 90 x) w := by kernel_rfl
/-- A list of one list of scalars, both of the call's own. -/
def Own1 (lo : Nat) (w : World) (v : Value) (l : List Nat) : Prop := ∃ x, w.ownsRow lo 32 1 v 1 [x] ∧ w.ownsRow lo 25 4 x l.length (l.flatMap encS)
theorem Own1.rd {lo : Nat} {w : World} {v : Value} {l : List Nat} (h : Own1 lo w v l) (hl : ∀ x ∈ l, x < lN) : (cLL cLS).rd w v [l] := by
  obtain ⟨x, h1, h2⟩ := h
  exact LLs1 (own_slAt h1) (show Ls encS okS w x l from ⟨own_slAt h2, fun z hz => Nat.lt_trans (hl z hz) (by decide)⟩)
def preF (G : List (List Nat)) (L : List Nat) (a : List Nat) : Prop := G.length = a.length ∧ a.length < 24 ∧ (∀ l ∈ G, l.length ≤ mx) ∧ L.length ≤ mx
def cFirF : Contract := fnW (Cods.cons cMadeC Cods.nil) (fun p _ => preF p.1.1.1 p.1.1.2 p.1.2.2) (fun p w v w' => Own1 w.heap.size w' v (msgF p.1.1.1 p.1.1.2 p.1.2.1 p.1.2.2))
def Tfi1 : Table := (((T0.add 82 cImF).add 50 cNegS).add 181 cFTim).add 178 cFAdd
theorem keepTfi1 : AllKeep Tryz.prog GT Tfi1 := (((keepT0.add keepsImF).add keepsNeg).add keepsFTim).add keepsFAdd
def ann35 : Ann := ⟨[(9, ([29], []))], [50], 70, [(82, false)], [], some false, [], []⟩
def kb35_0 (b0 : Nat) (x6 x7 x8 : Value) : List KB := [⟨b0, true, 155, #[x6, x7, x8]⟩]
def kb35_1 (b0 : Nat) (x9 x10 x11 x12 x13 x14 x15 : Value) : List KB := [⟨b0, true, 90, #[x9, x10, x11, x12, x13, x14, x15]⟩]
def kb35_2 (b0 b1 : Nat) (x9 x10 x11 x12 x13 x14 x15 x24 : Value) : List KB := [⟨b0, true, 90, #[x9, x10, x11, x12, x13, x14, x15]⟩, ⟨b1, true, 32, #[x24]⟩]
theorem vc35 (X : Ctx) (β : Nat → Nat) (x0 : Value) : (run Tryz.prog ann35 35 [.x (.v 0)] [] [] 2).den X (env0 [x0] X.w0) 2 β 0 (fun _ _ _ => False) = (
  Ask (rGen X.P (Go.Op.typeAssert (Go.Operand.tmp 8) 153 155 Bool.true) 0 [(8, x0)]) fun x2 =>
  Ask (rExt X.P x2 1) fun x3 =>
  Ask (rExt X.P x2 0) fun x4 =>
  (∃ t, x3 = .bool t) ∧ (x3 = .bool true →
    AskNew X.w0 fun b0 =>
    Ask (rAgg 3 x4) fun x5 =>
    Ask (rSel (aggArr x5) 0 1 false) fun x6 =>
    Ask (rSel (aggArr x5) 1 1 false) fun x7 =>
    Ask (rSel (aggArr x5) 2 1 false) fun x8 =>
    AskW X X.w0 [b0] (kb35_0 b0 x6 x7 x8) false 82 [(.agg #[x6, x7]), x8] fun x9 w9 =>
    Ret X w9 [] [] x9) ∧ (x3 = .bool false →
    Ask (rGen X.P (Go.Op.typeAssert (Go.Operand.tmp 8) 153 90 Bool.true) 0 [(8, x0)]) fun x5 =>
    Ask (rExt X.P x5 1) fun x6 =>
    Ask (rExt X.P x5 0) fun x7 =>
    (∃ t, x6 = .bool t) ∧ (x6 = .bool true →
      AskNew X.w0 fun b0 =>
      Ask (rAgg 7 x7) fun x8 =>
      Ask (rSel (aggArr x8) 0 1 false) fun x9 =>
      Ask (rSel (aggArr x8) 1 1 false) fun x10 =>
      Ask (rSel (aggArr x8) 2 1 false) fun x11 =>
      Ask (rSel (aggArr x8) 3 1 false) fun x12 =>
      Ask (rSel (aggArr x8) 4 1 false) fun x13 =>
      Ask (rSel (aggArr x8) 5 1 false) fun x14 =>
      Ask (rSel (aggArr x8) 6 1 false) fun x15 =>
      AskW X X.w0 [b0] (kb35_1 b0 x9 x10 x11 x12 x13 x14 x15) false 82 [(.agg #[x9, x10]), x15] fun x16 w16 =>
      Ask (rLen X.P 27 x10) fun x17 =>
      ∃ (I0 : List Value → World → Prop) (μ0 : List Value → World → Nat), (∀ w, KnownV X w16 [] (kb35_1 b0 x9 x10 x11 x12 x13 x14 x15) w → I0 [(J 0)] w) ∧ ∀ x18 w19, I0 [x18] w19 →
        Ask (rBin X.P .lss 3 false false x18 x17) fun x20 =>
        (∃ t, x20 = .bool t) ∧ (x20 = .bool true →
          Ask (rIad X.P 27 x10 x18) fun x21 =>
          Ask (rLoad X w19 [] 32 x21) fun x22 =>
          AskNew w19 fun b1 =>
          Ask (rAgg 1 x22) fun x23 =>
          Ask (rSel (aggArr x23) 0 1 false) fun x24 =>
          Ask (rIad X.P 27 x16 x18) fun x25 =>
          Ask (rLoad X w19 [b1] 32 x25) fun x26 =>
          Ask (rGen X.P (Go.Op.makeInterface 32 (Go.Operand.tmp 39)) 20 [(39, x26)]) fun x27 =>
          Ask (rGen X.P (Go.Op.makeInterface 32 (Go.Operand.tmp 41)) 20 [(41, (.agg #[x24]))]) fun x28 =>
          AskF X 50 [(.agg #[x11, x12, x13, x14])] fun x29 =>
          AskJ X w19 [b1] (kb35_2 b0 b1 x9 x10 x11 x12 x13 x14 x15 x24) false x28 "Times" [x29] fun x30 w30 =>
          AskJ X w30 [] (kb35_2 b0 b1 x9 x10 x11 x12 x13 x14 x15 x24) false x27 "Add" [x30] fun x31 w31 =>
          Ask (rIad X.P 27 x16 x18) fun x32 =>
          AskO X w31 [] (kb35_2 b0 b1 x9 x10 x11 x12 x13 x14 x15 x24) true (Go.Op.store 32 (Go.Operand.tmp 48) (Go.Operand.tmp 47)) 0 [(48, x32), (47, x31)] fun _ w33 =>
          Ask (rBin X.P .add 3 false true x18 (J 1)) fun x34 =>
          Again X w33 [] [] fun w => I0 [x34] w ∧ μ0 [x34] w < μ0 [x18] w19) ∧ (x20 = .bool false →
          Ret X w19 [] [] x16)) ∧ (x6 = .bool false →
      Ret X X.w0 [] [] (.slice none 0 0)))) := by kernel_rfl
theorem keepsFirF : Keeps1 Tryz.prog GT 35 cFirF := by
  refine keepsW (T := Tfi1) (A := ann35) hMix keepTfi1 hGT (calls_of (by kernel_rfl)) (callsW_of (by kernel_rfl)) fun args ⟨⟨⟨G, L⟩, c, la⟩, _⟩ w0 hrd hpre hg => ?_
  obtain ⟨_, _, rfl, ⟨rows, images, ans, rfl, hcl, hc, ha⟩, rfl⟩ := hrd
  dsimp only at hcl hc ha hpre
  obtain ⟨hlen, hfew, hmx, hL⟩ := hpre
  obtain ⟨_, _, row, img, e, h1, h2, h3, h4⟩ := hcl
  simp only [Value.agg.injEq] at e
  have e1 := congrArg Array.toList e
  simp only [List.cons.injEq, and_true] at e1
  obtain ⟨rfl, rfl⟩ := e1
  dsimp only at h3 h4
  replace ha : Ls encS okS w0 ans la := ha
  replace h4 : Ls encS okS w0 img L := h4
  have hcl : cClF.rd w0 (.agg #[rows, images]) (G, L) := ⟨rows, images, row, img, rfl, h1, h2, h3, h4⟩
  refine ⟨[.x (.v 0)], [], [], 2, env0 [.iface 90 (.agg #[rows, images, U (lb c 0), U (lb c 1), U (lb c 2), U (lb c 3), ans])] w0, fun b => b, 0, rfl, rfl, fun X hX => mem_none hX rfl, fun X hP hS hw hX hR => ?_⟩
  subst hw; try dsimp only at hR
  rw [vc35 X]
  rw [ask_ta (by rw [hP]; exact missF _), ask_ext (v := .bool false) rfl, ask_ext (v := .agg #[.slice none 0 0, .slice none 0 0, .slice none 0 0]) rfl]
  refine a_if (fun h => by cases h) fun _ => ?_
  rw [ask_ta (by rw [hP]; exact hitF _), ask_ext (v := .bool true) rfl, ask_ext (v := .agg #[rows, images, U (lb c 0), U (lb c 1), U (lb c 2), U (lb c 3), ans]) rfl]
  refine a_if (fun _ => ?_) fun h => by cases h
  intro b0 hb0
  refine a_agg (cs := [rows, images, U (lb c 0), U (lb c 1), U (lb c 2), U (lb c 3), ans]) rfl (by simp only [List.all_cons, slAt_one h1, slAt_one h2, slAt_one ha.1, List.all_nil, Bool.and_true, Bool.true_and]; rfl) ?_
  iterate 7 refine a_sel1 rfl ?_
  refine call_W hX hS (T := Tfi1) (f := 82) rfl ((G, L), la, ()) (fun w hw => ⟨⟨_, _, rfl, cClF_stable _ _ _ _ (hw.kn.stp0 hX) hcl, _, _, rfl, cLS_stable _ _ _ _ (hw.kn.stp0 hX) ha, rfl⟩, hlen, hfew, hmx⟩) fun v w1 w1' hw1 k1 s1 su1 hv => ?_
  obtain ⟨x, o1, o2⟩ := hv
  dsimp only at o1 o2
  have lo0 : b0 < w1.heap.size := hw1.low (by simp [kb35_1])
  have z0 := hw1.sz0
  refine a_len hP tyFree h2 ?_
  have hPl : (plainF (List.zip la G)).length ≤ mx := plainF_len _ (fun t ht => hmx _ (List.of_mem_zip ht).2) _ (Nat.zero_le _)
  have hPk : ∀ z ∈ plainF (List.zip la G), okS z := fun z hz => Nat.lt_trans (plainF_lt _ [] (fun _ h => by cases h) z hz) (by decide)
  refine ⟨fun a w => ∃ i, a = [J i] ∧ i ≤ 1 ∧ Kn X w ∧ (i = 0 → w.ownsRow w1.heap.size 32 1 v 1 [x] ∧ w.ownsRow w1.heap.size 25 4 x (plainF (List.zip la G)).length ((plainF (List.zip la G)).flatMap encS)) ∧ (i = 1 → Own1 w1.heap.size w v (msgF G L c la)), fun a _ => match a with | [i] => 1 - intNat i | _ => 0,
    fun w hw => ⟨0, rfl, Nat.zero_le _, hw.kn, fun _ => ⟨own_stp0 o1 hw.stp, own_stp0 o2 hw.stp⟩, fun h => by cases h⟩, ?_⟩
  rintro _ w ⟨i, he, hi, hk, hi0, hi1⟩
  simp only [List.cons.injEq, and_true] at he
  subst he
  rw [ask_lssN]
  refine a_ifD (fun hlt => ?_) fun hge => ?_
  · obtain rfl : i = 0 := by omega
    obtain ⟨q1, q2⟩ := hi0 rfl
    have h2' := h2.stp0 (hk.stp0 hX)
    refine a_iadN (i := 0) hP tyFree h2' (by decide) ?_
    refine a_load_agg (cs := [img]) hk h2' (by rw [hP]; exact aggFrG) (by rw [hP]; exact szFrG) (fun _ _ => List.not_mem_nil) (by simp) (fun j d hj => by
      match j, hj with
      | 0, hj => exact hj) ?_
    intro b1 hb1
    refine a_agg (cs := [img]) rfl (by simp [slAt_one h4.1]) (a_sel1 rfl ?_)
    refine a_iadN (i := 0) hP tyFree (own_slAt q1) (by decide) ?_
    refine a_load_agg (cs := [x]) hk (own_slAt q1) (by rw [hP]; exact aggFrG) (by rw [hP]; exact szFrG) (own_off q1 (all1 hb1)) (by simp) (fun j d hj => by
      match j, hj with
      | 0, hj => exact hj) ?_
    rw [ask_makeI (by rw [hP]; exact makeIF _), ask_makeI (by rw [hP]; exact makeIF _), foldSg]
    refine call_PE hS (T := Tfi1) (f := 50) rfl c hc ?_
    dsimp only
    refine call_J hP hX hS (methFTimes _ _) (T := Tfi1) (f := 181) rfl (L, subL 0 (c % lN)) (fun w2 hw => ⟨⟨_, rfl, h4.stp0 (hw.kn.stp0 hX), negL_lt c⟩, hL⟩) fun v2 w2 w2' hw2 k2 s2 su2 hv => ?_
    obtain ⟨y, rfl, oy⟩ := hv
    dsimp only at oy
    have q1' := own_stp q1 su2 (own_off q1 (all1 hb1))
    have q2' := own_stp q2 su2 (own_off q2 (all1 hb1))
    refine call_J hP hX hS (methFAdd _ _) (T := Tfi1) (f := 178) rfl (plainF (List.zip la G), trim (L.map (Fk.mul (subL 0 (c % lN))).op)) (fun w3 hw => ⟨⟨_, _, rfl, ⟨(own_slAt q2').stp0 hw.stp, hPk⟩, ⟨(own_slAt oy).stp0 hw.stp, fun z hz => ?_⟩⟩, hPl, Nat.le_trans (trim_len _) (by rw [List.length_map]; exact hL)⟩) fun v3 w3 w3' hw3 k3 s3 su3 hv => ?_
    · obtain ⟨q, _, rfl⟩ := List.mem_map.1 (mem_trimG hz)
      exact Nat.lt_trans (Fk.lt _ _) (by decide)
    obtain ⟨y3, rfl, o3⟩ := hv
    dsimp only at o3
    have q1'' := own_stp0 q1' su3
    have q1b := own_stp0 q1' hw3.stp
    refine a_iadN (i := 0) hP tyFree (own_slAt q1'') (by decide) ?_
    have zz := s3.size
    refine a_store (vs := [y3]) hX hP szFrG rfl rfl rfl rfl (by simp [own_one o3]) q1'' (by omega) (by decide) (by decide) (fun _ _ => List.not_mem_nil) (fun w4 hw4 g hg hm => ?_) fun _ w4 w4' hw4 k4 s4 su4 o4 => ?_
    · have hq := q1.lt g hg
      simp only [kb35_2, List.map_cons, List.map_nil, List.mem_cons, List.not_mem_nil, or_false] at hm
      omega
    rw [ask_succ (by decide)]
    intro w5 hw5
    refine ⟨⟨1, rfl, by decide, hw5.kn, (fun h => by cases h), fun _ => ⟨y3, own_stp0 o4 hw5.stp, ?_⟩⟩, by simp [intNat]⟩
    have z3 : w1.heap.size ≤ w3.heap.size := by
      have a1 := q1b
      have := hw3.size
      have := su2.size
      have := hk
      rcases Nat.lt_or_ge w3.heap.size w1.heap.size with h | h
      · exfalso
        obtain ⟨g, hg⟩ : ∃ g, v.ownBlock = some g := own_some q1 (by decide)
        have := (q1b.lt g hg)
        omega
      · exact h
    have o3' : w4'.ownsRow w3.heap.size 25 4 y3 (msgF G L c la).length ((msgF G L c la).flatMap encS) := own_stp (own_stp0 o3 hw4.stp) s4 fun g hg hm => by
      have hq := (o3.lt g hg).1
      obtain ⟨g', hg'⟩ : ∃ g, v.ownBlock = some g := own_some q1 (by decide)
      rw [hg'] at hm
      simp only [Option.toList_some, List.mem_singleton] at hm
      have := (q1b.lt g' hg').2
      omega
    exact own_mono (own_stp0 o3' hw5.stp) z3
  · obtain rfl : i = 1 := by omega
    obtain ⟨y, a1, a2⟩ := hi1 rfl
    exact hR _ _ _ _ fun w2 hw2 => ⟨y, own_mono (own_stp0 a1 hw2.stp) z0, own_mono (own_stp0 a2 hw2.stp) z0⟩
#print axioms keepsFirF

/-! ### same -/
theorem methFSame (a k : Value) : Meth Tryz.prog (.iface 32 (.agg #[a])) "Same" [k] 180 [.agg #[a], k] := fun w => by kernel_rfl
theorem rd1 {w : World} {v : Value} {a : List Nat} (h : (cLL cLS).rd w v [a]) : ∃ x, SlAt w v 1 [x] ∧ Ls encS okS w x a := by
  obtain ⟨vs, h1, h2, h3⟩ := h
  match vs, h2 with
  | [x], _ => exact ⟨x, h1, h3 0 x a rfl rfl⟩
def cSamF : Contract := fnW (Cods.cons (cLL cLS) (Cods.cons (cLL cLS) Cods.nil)) (fun p _ => ∃ a b, p.1 = [a] ∧ p.2.1 = [b] ∧ a.length ≤ mx ∧ b.length ≤ mx) (fun p _ v _ => ∃ t, v = .bool t ∧ ∀ a b, p.1 = [a] → p.2.1 = [b] → (t = true ↔ eqF a b))
def Tsa1 : Table := T0.add 180 cFSame
theorem keepTsa1 : AllKeep Tryz.prog GT Tsa1 := keepT0.add keepsFSame
def ann40 : Ann := ⟨[(2, ([8], []))], [], 70, [], [], some false, [], []⟩
theorem vc40 (X : Ctx) (β : Nat → Nat) (x0 x1 : Value) : (run Tryz.prog ann40 40 [.x (.v 0), .x (.v 1)] [] [] 3).den X (env0 [x0, x1] X.w0) 3 β 0 (fun _ _ _ => False) = (
  Ask (rLen X.P 27 x0) fun x3 =>
  ∃ (I0 : List Value → World → Prop) (μ0 : List Value → World → Nat), (∀ w, KnownV X X.w0 [] [] w → I0 [(J 0)] w) ∧ ∀ x4 w5, I0 [x4] w5 →
    Ask (rBin X.P .lss 3 false false x4 x3) fun x6 =>
    (∃ t, x6 = .bool t) ∧ (x6 = .bool true →
      Ask (rIad X.P 27 x0 x4) fun x7 =>
      Ask (rLoad X w5 [] 32 x7) fun x8 =>
      Ask (rGen X.P (Go.Op.makeInterface 32 (Go.Operand.tmp 14)) 20 [(14, x8)]) fun x9 =>
      Ask (rIad X.P 27 x1 x4) fun x10 =>
      Ask (rLoad X w5 [] 32 x10) fun x11 =>
      AskJ X w5 [] [] false x9 "Same" [x11] fun x12 w12 =>
      Ask (rUn X.P .not x12) fun x13 =>
      (∃ t, x13 = .bool t) ∧ (x13 = .bool true →
        Ret X w12 [] [] (.bool false)) ∧ (x13 = .bool false →
        Ask (rBin X.P .add 3 false true x4 (J 1)) fun x14 =>
        Again X w12 [] [] fun w => I0 [x14] w ∧ μ0 [x14] w < μ0 [x4] w5)) ∧ (x6 = .bool false →
      Ask (rLen X.P 27 x0) fun x7 =>
      Ask (rLen X.P 27 x1) fun x8 =>
      Ask (rBin X.P .eql 3 false false x7 x8) fun x9 =>
      Ret X w5 [] [] x9)) := by kernel_rfl
theorem keepsSamF : Keeps1 Tryz.prog GT 40 cSamF := by
  refine keepsW (T := Tsa1) (A := ann40) hMix keepTsa1 hGT (calls_of (by kernel_rfl)) (callsW_of (by kernel_rfl)) fun args ⟨l1, l2, _⟩ w0 hrd hpre hg => ?_
  obtain ⟨v1, _, rfl, r1, v2, _, rfl, r2, rfl⟩ := hrd
  obtain ⟨a, b, e1, e2, ha, hb⟩ := hpre
  dsimp only at r1 r2 e1 e2
  subst e1 e2
  obtain ⟨x, s1, hx⟩ := rd1 r1
  obtain ⟨y, s2, hy⟩ := rd1 r2
  refine ⟨[.x (.v 0), .x (.v 1)], [], [], 3, env0 [v1, v2] w0, fun b => b, 0, rfl, rfl, fun X hX => mem_none hX rfl, fun X hP hS hw hX hR => ?_⟩
  subst hw; try dsimp only at hR
  rw [vc40 X]
  refine a_len hP tyFree s1 ?_
  refine ⟨fun q w => ∃ i, q = [J i] ∧ i ≤ 1 ∧ Kn X w ∧ (i = 1 → eqF a b), fun q _ => match q with | [i] => 1 - intNat i | _ => 0, fun w hw => ⟨0, rfl, Nat.zero_le _, hw.kn, fun h => by cases h⟩, ?_⟩
  rintro _ w ⟨i, he, hi, hk, hi1⟩
  simp only [List.cons.injEq, and_true] at he
  subst he
  rw [ask_lssN]
  refine a_ifD (fun hlt => ?_) fun hge => ?_
  · obtain rfl : i = 0 := by omega
    have s1' := s1.stp0 (hk.stp0 hX)
    have s2' := s2.stp0 (hk.stp0 hX)
    refine a_iadN (i := 0) hP tyFree s1' (by decide) ?_
    refine a_load_agg (cs := [x]) hk s1' (by rw [hP]; exact aggFrG) (by rw [hP]; exact szFrG) (fun _ _ => List.not_mem_nil) (by simp) (fun j d hj => by
      match j, hj with
      | 0, hj => exact hj) ?_
    rw [ask_makeI (by rw [hP]; exact makeIF _)]
    refine a_iadN (i := 0) hP tyFree s2' (by decide) ?_
    refine a_load_agg (cs := [y]) hk s2' (by rw [hP]; exact aggFrG) (by rw [hP]; exact szFrG) (fun _ _ => List.not_mem_nil) (by simp) (fun j d hj => by
      match j, hj with
      | 0, hj => exact hj) ?_
    refine call_J hP hX hS (methFSame _ _) (T := Tsa1) (f := 180) rfl (a, b) (fun w2 hw => ⟨⟨_, _, rfl, hx.stp0 (hw.kn.stp0 hX), hy.stp0 (hw.kn.stp0 hX)⟩, ha, hb⟩) fun v w2 w2' hw2 k2 s2 su2 hv => ?_
    obtain ⟨t, rfl, ht⟩ := hv
    dsimp only at ht
    rw [ask_not]
    refine a_if (fun hf => ?_) fun hf => ?_
    · refine hR _ _ _ _ fun w3 hw3 => ⟨false, rfl, fun a' b' ea eb => ?_⟩
      simp only [List.cons.injEq, and_true] at ea eb
      subst ea eb
      constructor
      · intro h; cases h
      · intro h; rw [ht.2 h] at hf; cases hf
    · rw [ask_succ (by decide)]
      intro w3 hw3
      exact ⟨⟨1, rfl, by decide, hw3.kn, fun _ => ht.1 (by simpa using hf)⟩, by simp [intNat]⟩
  · obtain rfl : i = 1 := by omega
    refine a_len hP tyFree s1 ?_
    refine a_len hP tyFree s2 ?_
    rw [ask_eqlN, decide_eq_true rfl]
    refine hR _ _ _ _ fun w3 hw3 => ⟨true, rfl, fun a' b' ea eb => ?_⟩
    simp only [List.cons.injEq, and_true] at ea eb
    subst ea eb
    exact ⟨fun _ => hi1 rfl, fun _ => rfl⟩

/-! ### Simulate -/
def cSimF : Contract := fnW (Cods.cons cClF (Cods.cons cS (Cods.cons cLS Cods.nil))) (fun p _ => preF p.1.1 p.1.2 p.2.2.1 ∧ 0 < p.2.2.1.length) (fun p w v w' => ∃ o, v = .tuple #[o, J 0] ∧ Own1 w.heap.size w' o (msgF p.1.1 p.1.2 p.2.1 p.2.2.1))
def Tsi1 : Table := (T0.add 34 cFitF).add 35 cFirF
theorem keepTsi1 : AllKeep Tryz.prog GT Tsi1 := (keepT0.add keepsFitF).add keepsFirF
def ann9 : Ann := ⟨[], [], 70, [(34, false), (35, false)], [4], none, [], []⟩
def kb9_0 (b0 b1 : Nat) (x5 x6 x7 : Value) : List KB := [⟨b0, true, 29, #[x5, x6]⟩, ⟨b1, true, 25, (aggArr x7)⟩]
theorem vc9 (X : Ctx) (β : Nat → Nat) (x0 x1 x2 : Value) : (run Tryz.prog ann9 9 [.x (.v 0), .x (.v 1), .x (.v 2)] [] [] 4).den X (env0 [x0, x1, x2] X.w0) 4 β 0 (fun _ _ _ => False) = (
  Ask (rAgg 2 x0) fun x4 =>
  Ask (rSel (aggArr x4) 0 1 false) fun x5 =>
  Ask (rSel (aggArr x4) 1 1 false) fun x6 =>
  AskNew X.w0 fun b0 =>
  Ask (rAgg 4 x1) fun x7 =>
  AskNew X.w0 fun b1 =>
  AskO X X.w0 [] (kb9_0 b0 b1 x5 x6 x7) false (Go.Op.buildSlice 151 1 #[(0, Go.Operand.tmp 9)]) 151 [(9, x2)] fun x8 w8 =>
  AskW X w8 [] (kb9_0 b0 b1 x5 x6 x7) false 34 [(.agg #[x5, x6]), x8] fun x9 w9 =>
  Ask (rUn X.P .not x9) fun x10 =>
  (∃ t, x10 = .bool t) ∧ (x10 = .bool true →
    Ret X w9 [] [] (.tuple #[(.slice none 0 0), (J 2)])) ∧ (x10 = .bool false →
    Ask (rAgg 4 x7) fun x11 =>
    Ask (rSel (aggArr x11) 0 1 false) fun x12 =>
    Ask (rSel (aggArr x11) 1 1 false) fun x13 =>
    Ask (rSel (aggArr x11) 2 1 false) fun x14 =>
    Ask (rSel (aggArr x11) 3 1 false) fun x15 =>
    Ask (rPlain x2) fun x16 =>
    Ask (rGen X.P (Go.Op.makeInterface 90 (Go.Operand.tmp 16)) 153 [(16, (.agg #[x5, x6, x12, x13, x14, x15, x16]))]) fun x17 =>
    AskW X w9 [] (kb9_0 b0 b1 x5 x6 x7) false 35 [x17] fun x18 w18 =>
    Ret X w18 [] [] (.tuple #[x18, (J 0)]))) := by kernel_rfl
theorem keepsSimF : Keeps1 Tryz.prog GT 9 cSimF := by
  refine keepsW (T := Tsi1) (A := ann9) hMix keepTsi1 hGT (calls_of (by kernel_rfl)) (callsW_of (by kernel_rfl)) fun args ⟨⟨G, L⟩, c, la, _⟩ w0 hrd hpre hg => ?_
  obtain ⟨_, _, rfl, ⟨rows, images, row, img, rfl, h1, h2, h3, h4⟩, _, _, rfl, ⟨rfl, hc⟩, ans, _, rfl, ha, rfl⟩ := hrd
  dsimp only at h3 h4 hc ha hpre
  obtain ⟨hp, h0⟩ := hpre
  have hcl : cClF.rd w0 (.agg #[rows, images]) (G, L) := ⟨rows, images, row, img, rfl, h1, h2, h3, h4⟩
  replace ha : Ls encS okS w0 ans la := ha
  obtain ⟨pa, ca, rfl, _⟩ := slAt_form ha.1
  refine ⟨[.x (.v 0), .x (.v 1), .x (.v 2)], [], [], 4, env0 [.agg #[rows, images], S c, .slice pa la.length ca] w0, fun b => b, 0, rfl, rfl, fun X hX => mem_none hX rfl, fun X hP hS hw hX hR => ?_⟩
  subst hw; try dsimp only at hR
  rw [vc9 X]
  refine a_agg (cs := [rows, images]) rfl (by simp [slAt_one h1, slAt_one h2]) ?_
  iterate 2 refine a_sel1 rfl ?_
  intro b0 hb0
  rw [ask_aggS]; intro b1 hb1
  refine a_build #[.slice pa la.length ca] hX hP tyLLS (by decide) (by decide) (by kernel_rfl) rfl (by decide) fun q w1 w1' hw1 k1 s1 su1 o1 => ?_
  refine call_W hX hS (T := Tsi1) (f := 34) rfl ((G, L), [la], ()) (fun w hw => ⟨⟨_, _, rfl, cClF_stable _ _ _ _ (hw.kn.stp0 hX) hcl, _, _, rfl, LLs1 ((own_slAt o1).stp0 hw.stp) (cLS_stable _ _ _ _ (hw.kn.stp0 hX) ha), rfl⟩, ⟨la, rfl, hp.1.symm, h0⟩⟩) fun v w2 w2' hw2 k2 s2 su2 hv => ?_
  subst hv
  rw [ask_not, Bool.not_true]
  refine a_if (fun h => by cases h) fun _ => ?_
  rw [ask_aggS, ask_selS0, ask_selS1, ask_selS2, ask_selS3]
  refine a_plain (slAt_one ha.1) ?_
  rw [ask_makeI (by rw [hP]; exact makeIM _)]
  refine call_W hX hS (T := Tsi1) (f := 35) rfl (((G, L), c, la), ()) (fun w hw => ⟨⟨_, _, rfl, ⟨rows, images, _, rfl, cClF_stable _ _ _ _ (hw.kn.stp0 hX) hcl, hc, cLS_stable _ _ _ _ (hw.kn.stp0 hX) ha⟩, rfl⟩, hp⟩) fun v w3 w3' hw3 k3 s3 su3 hv => ?_
  obtain ⟨x, a1, a2⟩ := hv
  exact hR _ _ _ _ fun w4 hw4 => ⟨v, rfl, x, own_mono (own_stp0 a1 hw4.stp) hw3.sz0, own_mono (own_stp0 a2 hw4.stp) hw3.sz0⟩
#print axioms keepsSimF

/-! ### Accepts -/
def cAccF : Contract := fnW (Cods.cons cClF (Cods.cons (cLL cLS) (Cods.cons cS (Cods.cons cLS Cods.nil)))) (fun p _ => (preF p.1.1 p.1.2 p.2.2.2.1 ∧ 0 < p.2.2.2.1.length) ∧ ∃ m, p.2.1 = [m] ∧ m.length ≤ mx)
  (fun p _ v _ => ∃ t : Bool, v = J (if t then 0 else 111) ∧ ∀ m, p.2.1 = [m] → (t = true ↔ eqF (msgF p.1.1 p.1.2 p.2.2.1 p.2.2.2.1) m))
def Tac1 : Table := ((T0.add 34 cFitF).add 35 cFirF).add 40 cSamF
theorem keepTac1 : AllKeep Tryz.prog GT Tac1 := ((keepT0.add keepsFitF).add keepsFirF).add keepsSamF
def ann11 : Ann := ⟨[], [], 70, [(34, false), (35, false), (40, false)], [6], none, [], []⟩
def kb11_0 (b0 b1 : Nat) (x6 x7 x8 : Value) : List KB := [⟨b0, true, 29, #[x6, x7]⟩, ⟨b1, true, 25, (aggArr x8)⟩]
theorem vc11 (X : Ctx) (β : Nat → Nat) (x0 x1 x2 x3 : Value) : (run Tryz.prog ann11 11 [.x (.v 0), .x (.v 1), .x (.v 2), .x (.v 3)] [] [] 5).den X (env0 [x0, x1, x2, x3] X.w0) 5 β 0 (fun _ _ _ => False) = (
  Ask (rAgg 2 x0) fun x5 =>
  Ask (rSel (aggArr x5) 0 1 false) fun x6 =>
  Ask (rSel (aggArr x5) 1 1 false) fun x7 =>
  AskNew X.w0 fun b0 =>
  Ask (rAgg 4 x2) fun x8 =>
  AskNew X.w0 fun b1 =>
  AskO X X.w0 [] (kb11_0 b0 b1 x6 x7 x8) false (Go.Op.buildSlice 151 1 #[(0, Go.Operand.tmp 10)]) 151 [(10, x3)] fun x9 w9 =>
  AskW X w9 [] (kb11_0 b0 b1 x6 x7 x8) false 34 [(.agg #[x6, x7]), x9] fun x10 w10 =>
  Ask (rUn X.P .not x10) fun x11 =>
  AskG [(x11, false)] (rLen X.P 27 x1) fun x12 =>
  AskG [(x11, false)] (rLen X.P 26 x6) fun x13 =>
  AskG [(x11, false)] (rBin X.P .neq 3 false false x12 x13) fun x14 =>
  Ask (rPick x11 (.bool true) x14) fun x15 =>
  (∃ t, x15 = .bool t) ∧ (x15 = .bool true →
    Ret X w10 [] [] (J 2)) ∧ (x15 = .bool false →
    Ask (rAgg 4 x8) fun x16 =>
    Ask (rSel (aggArr x16) 0 1 false) fun x17 =>
    Ask (rSel (aggArr x16) 1 1 false) fun x18 =>
    Ask (rSel (aggArr x16) 2 1 false) fun x19 =>
    Ask (rSel (aggArr x16) 3 1 false) fun x20 =>
    Ask (rPlain x3) fun x21 =>
    Ask (rGen X.P (Go.Op.makeInterface 90 (Go.Operand.tmp 25)) 153 [(25, (.agg #[x6, x7, x17, x18, x19, x20, x21]))]) fun x22 =>
    AskW X w10 [] (kb11_0 b0 b1 x6 x7 x8) false 35 [x22] fun x23 w23 =>
    AskW X w23 [] (kb11_0 b0 b1 x6 x7 x8) false 40 [x23, x1] fun x24 w24 =>
    Ask (rUn X.P .not x24) fun x25 =>
    (∃ t, x25 = .bool t) ∧ (x25 = .bool true →
      Ret X w24 [] [] (J 111)) ∧ (x25 = .bool false →
      Ret X w24 [] [] (J 0)))) := by kernel_rfl
theorem keepsAccF : Keeps1 Tryz.prog GT 11 cAccF := by
  refine keepsW (T := Tac1) (A := ann11) hMix keepTac1 hGT (calls_of (by kernel_rfl)) (callsW_of (by kernel_rfl)) fun args ⟨⟨G, L⟩, M, c, la, _⟩ w0 hrd hpre hg => ?_
  obtain ⟨_, _, rfl, ⟨rows, images, row, img, rfl, h1, h2, h3, h4⟩, fi, _, rfl, hf, _, _, rfl, ⟨rfl, hc⟩, ans, _, rfl, ha, rfl⟩ := hrd
  dsimp only at h3 h4 hc ha hf hpre
  obtain ⟨⟨hp, h0⟩, m, em, hm⟩ := hpre
  subst em
  have hcl : cClF.rd w0 (.agg #[rows, images]) (G, L) := ⟨rows, images, row, img, rfl, h1, h2, h3, h4⟩
  replace ha : Ls encS okS w0 ans la := ha
  obtain ⟨fx, sf, hfx⟩ := rd1 hf
  obtain ⟨pa, ca, rfl, _⟩ := slAt_form ha.1
  refine ⟨[.x (.v 0), .x (.v 1), .x (.v 2), .x (.v 3)], [], [], 5, env0 [.agg #[rows, images], fi, S c, .slice pa la.length ca] w0, fun b => b, 0, rfl, rfl, fun X hX => mem_none hX rfl, fun X hP hS hw hX hR => ?_⟩
  subst hw; try dsimp only at hR
  rw [vc11 X]
  refine a_agg (cs := [rows, images]) rfl (by simp [slAt_one h1, slAt_one h2]) ?_
  iterate 2 refine a_sel1 rfl ?_
  intro b0 hb0
  rw [ask_aggS]; intro b1 hb1
  refine a_build #[.slice pa la.length ca] hX hP tyLLS (by decide) (by decide) (by kernel_rfl) rfl (by decide) fun q w1 w1' hw1 k1 s1 su1 o1 => ?_
  refine call_W hX hS (T := Tac1) (f := 34) rfl ((G, L), [la], ()) (fun w hw => ⟨⟨_, _, rfl, cClF_stable _ _ _ _ (hw.kn.stp0 hX) hcl, _, _, rfl, LLs1 ((own_slAt o1).stp0 hw.stp) (cLS_stable _ _ _ _ (hw.kn.stp0 hX) ha), rfl⟩, ⟨la, rfl, hp.1.symm, h0⟩⟩) fun v w2 w2' hw2 k2 s2 su2 hv => ?_
  subst hv
  rw [ask_not, Bool.not_true]
  refine a_G_on condsV1 (a_len hP tyFree sf ?_)
  refine a_G_on condsV1 (a_len hP tyLF h1 ?_)
  refine a_G_on condsV1 ?_
  rw [ask_neqN, decide_eq_true rfl, Bool.not_true, ask_pickF]
  refine a_if (fun h => by cases h) fun _ => ?_
  rw [ask_aggS, ask_selS0, ask_selS1, ask_selS2, ask_selS3]
  refine a_plain (slAt_one ha.1) ?_
  rw [ask_makeI (by rw [hP]; exact makeIM _)]
  refine call_W hX hS (T := Tac1) (f := 35) rfl (((G, L), c, la), ()) (fun w hw => ⟨⟨_, _, rfl, ⟨rows, images, _, rfl, cClF_stable _ _ _ _ (hw.kn.stp0 hX) hcl, hc, cLS_stable _ _ _ _ (hw.kn.stp0 hX) ha⟩, rfl⟩, hp⟩) fun v w3 w3' hw3 k3 s3 su3 hv => ?_
  dsimp only at hv
  refine call_W hX hS (T := Tac1) (f := 40) rfl ([msgF G L c la], [m], ()) (fun w hw => ⟨⟨_, _, rfl, cLLS_stable _ _ _ _ hw.stp (hv.rd (msgF_lt _ _ _ _)), _, _, rfl, cLLS_stable _ _ _ _ (hw.kn.stp0 hX) hf, rfl⟩, ⟨_, m, rfl, rfl, msgF_len _ _ _ _ hp.2.2.1 hp.2.2.2, hm⟩⟩) fun v4 w4 w4' hw4 k4 s4 su4 hv4 => ?_
  obtain ⟨t, rfl, ht⟩ := hv4
  dsimp only at ht
  have ht' := ht _ _ rfl rfl
  rw [ask_not]
  have fin : ∀ u ow bl (t' : Bool), t' = t → Ret X u ow bl (J (if t' then 0 else 111)) := fun u ow bl t' e => hR _ _ _ _ fun _ _ => ⟨t', rfl, fun m' e' => by
    simp only [List.cons.injEq, and_true] at e'
    subst e'
    rw [e]; exact ht'⟩
  refine a_if (fun hf => ?_) fun hf => ?_
  · exact fin _ _ _ false (by simpa using hf)
  · exact fin _ _ _ true (by simpa using hf)
#print axioms keepsAccF
end Go.Vc
