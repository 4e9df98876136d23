/-
  isLines, isClaim, SigmaClaims: walked.
-/
import Derived.Test.YtoakfcihcmmihaaDoorDSig
namespace Go.Vc
open Go Go.Proofs Go.RowKit

theorem encE_K {n j : Nat} {c : Value} (h : (encS n)[j]? = some c) : (encE n)[21 + j]? = some c := by
  match j with
  | 0 | 1 | 2 | 3 => exact h
  | j + 4 => simp [encS] at h
theorem a4S : A4 Tryd.prog 24 22 := ⟨by kernel_rfl, by kernel_rfl, by kernel_rfl, by kernel_rfl⟩
theorem a4R : A4 Tryd.prog 36 22 := ⟨by kernel_rfl, by kernel_rfl, by kernel_rfl, by kernel_rfl⟩
theorem aggS : agg? Tryd.prog 24 = some true := by kernel_rfl
theorem szS : sz Tryd.prog 24 = some 4 := by kernel_rfl
theorem aggR : agg? Tryd.prog 36 = some true := by kernel_rfl
theorem szR : sz Tryd.prog 36 = some 4 := by kernel_rfl
theorem fdLine : FdTy Tryd.prog 26 0 0 := ⟨3, by kernel_rfl⟩
theorem fdEK : FdTy Tryd.prog 39 2 21 := ⟨3, by kernel_rfl⟩
theorem slAt_bd {w : World} {v : Value} {n : Nat} {xs : List Value} (h : SlAt w v n xs) : n < 2 ^ 63 := by
  rcases h with ⟨_, hn, _⟩ | ⟨_, _, _, _, hn, _⟩
  · omega
  · have := Nat.le_trans hn.1 hn.2; unfold maxLen at this; omega

def ann56 : Ann := ⟨[(4, ([5], []))], [35], 70, [], [], none, [], []⟩
theorem vc56 (X : Ctx) (β : Nat → Nat) (x0 x1 : Value) : (run Tryd.prog ann56 56 [.x (.v 0), .x (.v 1)] [] [] 3).den X (env0 [x0, x1] X.w0) 3 β 0 (fun _ _ _ => False) = (
  Ask (rLen X.P 27 x0) fun x3 =>
  Ask (rLen X.P 42 x1) fun x4 =>
  Ask (rBin X.P .neq 3 false false x3 x4) fun x5 =>
  (∃ t, x5 = .bool t) ∧ (x5 = .bool true →
    Ret X X.w0 [] [] (.bool false)) ∧ (x5 = .bool false →
    ∃ (I0 : List Value → World → Prop) (μ0 : List Value → World → Nat), (∀ w, KnownV X X.w0 [] [] w → I0 [(J 0)] w) ∧ ∀ x6 w7, I0 [x6] w7 →
      Ask (rLen X.P 27 x0) fun x8 =>
      Ask (rBin X.P .lss 3 false false x6 x8) fun x9 =>
      (∃ t, x9 = .bool t) ∧ (x9 = .bool true →
        Ask (rIad X.P 27 x0 x6) fun x10 =>
        Ask (rFad X.P 26 x10 0) fun x11 =>
        Ask (rLoad X w7 [] 24 x11) fun x12 =>
        AskF X 35 [x12] fun x13 =>
        Ask (rIad X.P 42 x1 x6) fun x14 =>
        Ask (rFad X.P 39 x14 2) fun x15 =>
        Ask (rLoad X w7 [] 36 x15) fun x16 =>
        Ask (rBin X.P .neq 36 false false x13 x16) fun x17 =>
        (∃ t, x17 = .bool t) ∧ (x17 = .bool true →
          Ret X w7 [] [] (.bool false)) ∧ (x17 = .bool false →
          Ask (rBin X.P .add 3 false true x6 (J 1)) fun x18 =>
          Again X w7 [] [] fun w => I0 [x18] w ∧ μ0 [x18] w < μ0 [x6] w7)) ∧ (x9 = .bool false →
        Ret X w7 [] [] (.bool true)))) := by kernel_rfl
def cIsLines : Contract := fnW (Cods.cons cLS (Cods.cons cLE Cods.nil)) (fun _ _ => True) (fun p _ v _ => v = .bool (decide (p.1.map (· % lN) = p.2.1)))
def Til : Table := T0.add 35 cLeastS
theorem keepTil : AllKeep Tryd.prog GT Til := keepT0.add keepsLeast
theorem map_step {a b : List Nat} {k : Nat} (ha : k < a.length) (hb : k < b.length) (h : (a.take k).map (· % lN) = b.take k) (he : a[k] % lN = b[k]) : (a.take (k + 1)).map (· % lN) = b.take (k + 1) := by
  rw [List.take_succ_eq_append_getElem ha, List.take_succ_eq_append_getElem hb, List.map_append, h, List.map_singleton, he]
theorem keepsIsLines : Keeps1 Tryd.prog GT 56 cIsLines := by
  refine keepsW (T := Til) (A := ann56) hMix keepTil hGT (fun f hf => by
      simp only [ann56, List.mem_cons, List.not_mem_nil, or_false] at hf
      subst hf; intros; kernel_rfl) (fun f hf => by cases hf) fun args ⟨a, b, _⟩ w0 hrd _ _ => ?_
  obtain ⟨x, _, rfl, ha, y, _, rfl, hb, rfl⟩ := hrd
  dsimp only at ha hb
  refine ⟨[.x (.v 0), .x (.v 1)], [], [], 3, env0 [x, y] w0, fun b => b, 0, rfl, rfl, fun X hX => mem_none hX rfl, fun X hP hS hw hX hR => ?_⟩
  subst hw; dsimp only at hR
  rw [vc56 X]
  replace ha : Ls encS okS X.w0 x a := ha
  replace hb : Ls encE okS X.w0 y b := hb
  have oa := ha.2; have ob := hb.2
  replace ha := ha.1; replace hb := hb.1
  have hbd := slAt_bd ha
  refine a_len hP tyL ha ?_
  refine a_len hP tyE hb ?_
  rw [ask_neqN]
  refine a_ifN (fun hne => hR _ _ _ _ fun w _ => ?_) fun hl => ?_
  · have : a.map (· % lN) ≠ b := fun h => hne (by rw [← h, List.length_map])
    simp [this]
  refine ⟨fun l w => ∃ k : Nat, l = [J k] ∧ k ≤ a.length ∧ (a.take k).map (· % lN) = b.take k ∧ Kn X w, fun l _ => match l with | [i] => a.length - intNat i | _ => 0, fun w hw => ⟨0, rfl, Nat.zero_le _, rfl, hw.kn⟩, ?_⟩
  rintro _ w ⟨k, he, hk, heq, hkn⟩
  simp only [List.cons.injEq, and_true] at he
  obtain rfl := he
  refine a_len hP tyL ha ?_
  rw [ask_lssN]
  refine a_ifD (fun hlt => ?_) fun hge => ?_
  · have ha' := ha.stp0 (hkn.stp0 hX)
    have hb' := hb.stp0 (hkn.stp0 hX)
    have hka : a[k]? = some a[k] := List.getElem?_eq_getElem hlt
    have hkb : b[k]? = some b[k] := List.getElem?_eq_getElem (by omega)
    refine a_iadN hP tyL ha' hlt ?_
    refine a_fad ha' (by omega) hP fdLine ?_
    refine a_load_agg (cs := encS a[k]) hkn ha' (by rw [hP]; exact aggS) (by rw [hP]; exact szS) (fun _ _ => List.not_mem_nil) (by simp [encS]) (flat_at encS_len a k _ hka) ?_
    refine call_PE hS (T := Til) (f := 35) rfl a[k] (oa _ (List.getElem_mem _)) ?_
    refine a_iadN hP tyE hb' (by omega) ?_
    refine a_fad hb' (by omega) hP fdEK ?_
    refine a_load_agg (cs := encS b[k]) hkn hb' (by rw [hP]; exact aggR) (by rw [hP]; exact szR) (fun _ _ => List.not_mem_nil) (by simp [encS]) (fun j c hj => by rw [Nat.add_assoc]; exact flat_at encE_len b k _ hkb _ _ (encE_K hj)) ?_
    rw [agg_encS, ask_neqS (hP ▸ a4R) (lm_lt _) (ob _ (List.getElem_mem _))]
    refine a_ifN (fun hne => hR _ _ _ _ fun w _ => ?_) fun heq' => ?_
    · have : a.map (· % lN) ≠ b := fun h => hne (by
        have := congrArg (fun l => l[k]?) h
        simp only [List.getElem?_map, hka, hkb, Option.map_some, Option.some.injEq] at this
        exact this)
      simp [this]
    · rw [ask_succ (by omega)]
      intro w' hw'
      exact ⟨⟨k + 1, rfl, hlt, map_step hlt (by omega) heq heq', hw'.kn⟩, by simp [intNat]; omega⟩
  · obtain rfl : k = a.length := by omega
    refine hR _ _ _ _ fun w _ => ?_
    rw [List.take_of_length_le (Nat.le_refl _), List.take_of_length_le (by omega)] at heq
    simp [heq]

def ann11 : Ann := ⟨[(4, ([5], []))], [], 70, [(56, false)], [], none, [], []⟩
def kb11_0 (b0 b1 : Nat) (x4 x5 x7 x8 x9 : Value) : List KB := [⟨b0, true, 48, #[x4, x5]⟩, ⟨b1, true, 52, #[x7, x8, x9]⟩]
theorem vc11 (X : Ctx) (β : Nat → Nat) (x0 x1 : Value) : (run Tryd.prog ann11 11 [.x (.v 0), .x (.v 1)] [] [] 3).den X (env0 [x0, x1] X.w0) 3 β 0 (fun _ _ _ => False) = (
  Ask (rAgg 2 x0) fun x3 =>
  Ask (rSel (aggArr x3) 0 1 false) fun x4 =>
  Ask (rSel (aggArr x3) 1 1 false) fun x5 =>
  AskNew X.w0 fun b0 =>
  Ask (rAgg 3 x1) fun x6 =>
  Ask (rSel (aggArr x6) 0 1 false) fun x7 =>
  Ask (rSel (aggArr x6) 1 1 false) fun x8 =>
  Ask (rSel (aggArr x6) 2 1 false) fun x9 =>
  AskNew X.w0 fun b1 =>
  Ask (rLen X.P 46 x4) fun x10 =>
  Ask (rLen X.P 50 x8) fun x11 =>
  Ask (rBin X.P .neq 3 false false x10 x11) fun x12 =>
  AskGW X [(x12, false)] X.w0 [] (kb11_0 b0 b1 x4 x5 x7 x8 x9) false 56 [x5, x9] fun x13 w13 =>
  AskG [(x12, false)] (rUn X.P .not x13) fun x14 =>
  Ask (rPick x12 (.bool true) x14) fun x15 =>
  (∃ t, x15 = .bool t) ∧ (x15 = .bool true →
    Ret X w13 [] [] (.bool false)) ∧ (x15 = .bool false →
    ∃ (I0 : List Value → World → Prop) (μ0 : List Value → World → Nat), (∀ w, KnownV X w13 [] (kb11_0 b0 b1 x4 x5 x7 x8 x9) w → I0 [(J 0)] w) ∧ ∀ x16 w17, I0 [x16] w17 →
      Ask (rLen X.P 46 x4) fun x18 =>
      Ask (rBin X.P .lss 3 false false x16 x18) fun x19 =>
      (∃ t, x19 = .bool t) ∧ (x19 = .bool true →
        Ask (rIad X.P 46 x4 x16) fun x20 =>
        Ask (rLoad X w17 [] 27 x20) fun x21 =>
        Ask (rIad X.P 50 x8 x16) fun x22 =>
        Ask (rLoad X w17 [] 42 x22) fun x23 =>
        AskW X w17 [] (kb11_0 b0 b1 x4 x5 x7 x8 x9) false 56 [x21, x23] fun x24 w24 =>
        Ask (rUn X.P .not x24) fun x25 =>
        (∃ t, x25 = .bool t) ∧ (x25 = .bool true →
          Ret X w24 [] [] (.bool false)) ∧ (x25 = .bool false →
          Ask (rBin X.P .add 3 false true x16 (J 1)) fun x26 =>
          Again X w24 [] [] fun w => I0 [x26] w ∧ μ0 [x26] w < μ0 [x16] w17)) ∧ (x19 = .bool false →
        Ret X w17 [] [] (.bool true)))) := by kernel_rfl
def lm (l : List Nat) : List Nat := l.map (· % lN)
def cIsClaim : Contract := fnW (Cods.cons cClaim (Cods.cons cRClaim Cods.nil)) (fun _ _ => True) (fun p _ v _ => v = .bool (decide (p.1.1.map lm = p.2.1.1 ∧ lm p.1.2 = p.2.1.2)))
def Tic : Table := T0.add 56 cIsLines
theorem keepTic : AllKeep Tryd.prog GT Tic := keepT0.add keepsIsLines
theorem mapL_step {a b : List (List Nat)} {k : Nat} (ha : k < a.length) (hb : k < b.length) (h : (a.take k).map lm = b.take k) (he : lm a[k] = b[k]) : (a.take (k + 1)).map lm = b.take (k + 1) := by
  rw [List.take_succ_eq_append_getElem ha, List.take_succ_eq_append_getElem hb, List.map_append, h, List.map_singleton, he]
theorem keepsIsClaim : Keeps1 Tryd.prog GT 11 cIsClaim := by
  refine keepsW (T := Tic) (A := ann11) hMix keepTic hGT (fun f hf => by cases hf) (fun f hf => by
      simp only [ann11, List.mem_cons, List.not_mem_nil, or_false] at hf
      subst hf; intros; kernel_rfl) fun args ⟨⟨ra, ia⟩, ⟨rb, ib⟩, _⟩ w0 hrd _ _ => ?_
  obtain ⟨_, _, rfl, ⟨x, y, rfl, hx, hy⟩, _, _, rfl, ⟨x', y', rfl, hx', hy'⟩, rfl⟩ := hrd
  dsimp only at hx hy hx' hy'
  refine ⟨[.x (.v 0), .x (.v 1)], [], [], 3, env0 [.agg #[x, y], .agg #[J 2, x', y']] w0, fun b => b, 0, rfl, rfl, fun X hX => mem_none hX rfl, fun X hP hS hw hX hR => ?_⟩
  subst hw; dsimp only at hR
  rw [vc11 X]
  obtain ⟨vs, hx1, hx2, hx3⟩ := hx
  obtain ⟨vs', hx1', hx2', hx3'⟩ := hx'
  have oy := slAt_one hy.1
  have oy' := slAt_one hy'.1
  have ox := slAt_one hx1
  have ox' := slAt_one hx1'
  refine a_agg (cs := [x, y]) rfl (by simp [ox, oy]) ?_
  iterate 2 refine a_sel1 rfl ?_
  intro b0 _
  refine a_agg (cs := [J 2, x', y']) rfl (by simp only [List.all_cons, List.all_nil, oneJ2, ox', oy', Bool.and_true]) ?_
  iterate 3 refine a_sel1 rfl ?_
  intro b1 _
  have hbd := slAt_bd hx1
  refine a_len hP tyLL hx1 ?_
  refine a_len hP tyEE hx1' ?_
  rw [ask_neqN]
  have cls : ∀ w, KnownV X X.w0 [] [] w → cLS.rd w y ia := fun w hw => cLS_stable _ _ _ _ hw.stp hy
  by_cases hl : ra.length = rb.length
  case neg =>
    have e : (!decide (ra.length = rb.length)) = true := by simp [hl]
    rw [e]
    refine a_GW_off (condsV1_not (by decide)) fun v => a_G_off (condsV1_not (by decide)) fun v' => ?_
    rw [ask_pickT]
    refine a_if (fun _ => hR _ _ _ _ fun w _ => ?_) fun h => by cases h
    have : ra.map lm ≠ rb := fun h => hl (by rw [← h, List.length_map])
    simp [this]
  case pos =>
  have e : (!decide (ra.length = rb.length)) = false := by simp [hl]
  rw [e]
  refine a_GW_on condsV1 ?_
  refine call_W hX hS (T := Tic) (f := 56) rfl (ia, ib, ()) (fun w hw => ⟨⟨_, _, rfl, cLS_stable _ _ _ _ hw.stp hy, _, _, rfl, cLE_stable _ _ _ _ hw.stp hy', rfl⟩, trivial⟩) fun v w w1 h1 k1 _ s1 hv => ?_
  dsimp only at hv
  subst hv
  refine a_G_on condsV1 ?_
  rw [ask_not, ask_pickF]
  refine a_ifN (fun hne => hR _ _ _ _ fun w _ => ?_) fun hi => ?_
  · have : ¬ lm ia = ib := hne
    simp [this]
  refine ⟨fun l w => ∃ k : Nat, l = [J k] ∧ k ≤ ra.length ∧ (ra.take k).map lm = rb.take k ∧ Kn X w, fun l _ => match l with | [i] => ra.length - intNat i | _ => 0, fun w hw => ⟨0, rfl, Nat.zero_le _, rfl, hw.kn⟩, ?_⟩
  rintro _ w ⟨k, he, hk, heq, hkn⟩
  simp only [List.cons.injEq, and_true] at he
  obtain rfl := he
  refine a_len hP tyLL hx1 ?_
  rw [ask_lssN]
  refine a_ifD (fun hlt => ?_) fun hge => ?_
  · have sw := hkn.stp0 hX
    have hka : ra[k]? = some ra[k] := List.getElem?_eq_getElem hlt
    have hkb : rb[k]? = some rb[k] := List.getElem?_eq_getElem (by omega)
    have hva : vs[k]? = some vs[k] := List.getElem?_eq_getElem (by omega)
    have hvb : vs'[k]? = some vs'[k] := List.getElem?_eq_getElem (by omega)
    refine a_iadN hP tyLL (hx1.stp0 sw) hlt ?_
    rw [Nat.mul_one]
    refine a_load_one hkn (hx1.stp0 sw) (by rw [hP]; kernel_rfl) (fun _ _ => List.not_mem_nil) hva ?_
    refine a_iadN hP tyEE (hx1'.stp0 sw) (by omega) ?_
    rw [Nat.mul_one]
    refine a_load_one hkn (hx1'.stp0 sw) (by rw [hP]; kernel_rfl) (fun _ _ => List.not_mem_nil) hvb ?_
    refine call_W hX hS (T := Tic) (f := 56) rfl (ra[k], rb[k], ()) (fun w hw => ⟨⟨_, _, rfl, cLS_stable _ _ _ _ (sw.trans0 hw.stp) (hx3 _ _ _ hva hka), _, _, rfl, cLE_stable _ _ _ _ (sw.trans0 hw.stp) (hx3' _ _ _ hvb hkb), rfl⟩, trivial⟩) fun v w2 w3 h3 k3 _ s3 hv => ?_
    dsimp only at hv
    subst hv
    rw [ask_not]
    refine a_ifN (fun hne => hR _ _ _ _ fun w _ => ?_) fun heq' => ?_
    · have : ra.map lm ≠ rb := fun h => hne (by
        have := congrArg (fun l => l[k]?) h
        simp only [List.getElem?_map, hka, hkb, Option.map_some, Option.some.injEq] at this
        exact this)
      simp [this]
    · rw [ask_succ (by omega)]
      intro w' hw'
      exact ⟨⟨k + 1, rfl, hlt, mapL_step hlt (by omega) heq heq', hw'.kn⟩, by simp [intNat]; omega⟩
  · obtain rfl : k = ra.length := by omega
    refine hR _ _ _ _ fun w _ => ?_
    rw [List.take_of_length_le (Nat.le_refl _), List.take_of_length_le (by omega)] at heq
    have hi' : lm ia = ib := hi
    simp [heq, hi']
end Go.Vc
