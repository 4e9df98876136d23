/-
  MsmZips: the law, walked.
-/
import Derived.Test.YtoakfcihcmmihaaDoorDZip2
namespace Go.Vc
open Go Go.Proofs Go.RowKit

def Tmz : Table := (((((T0.add 30 cBound).add 31 cBound).add 35 cLeastS).add 32 cCopied7).add 34 cUnt).add 33 cZip
theorem keepTmz : AllKeep Tryd.prog GT Tmz := (((((keepT0.add keepsBound).add keepsRBound).add keepsLeast).add keepsCopied7).add keepsUnt).add keepsZip
theorem mk_stp {u w : World} {v : Value} {l ex : List Nat} (h : cMk.rd u v l) (hs : Stp ex u w) (hb : ∀ b, v.ownBlock = some b → b ∉ ex) : cMk.rd w v l := by
  obtain ⟨g, cap, rfl, h, ok⟩ := h
  exact ⟨g, cap, rfl, h.stp hs (by intro b h; exact hb b h), ok⟩
theorem fdK : FdTy Tryd.prog 93 0 0 := ⟨3, by kernel_rfl⟩
theorem fdP : FdTy Tryd.prog 93 1 4 := ⟨3, by kernel_rfl⟩
theorem fdL : FdTy Tryd.prog 26 0 0 := ⟨3, by kernel_rfl⟩
theorem encT_K {l : List (Nat × Nat)} {i : Nat} (hi : i < l.length) : ∀ (j : Nat) (c : Value), (encS l[i].1)[j]? = some c → (l.flatMap encT)[i * 8 + 0 + j]? = some c := fun j c h => by
  have := flat_at encT_len l i _ (List.getElem?_eq_getElem hi) j c (by unfold encT; rw [List.getElem?_append_left (by rw [List.getElem?_eq_some_iff] at h; exact h.1)]; exact h)
  simpa using this
theorem encT_P {l : List (Nat × Nat)} {i : Nat} (hi : i < l.length) : ∀ (j : Nat) (c : Value), (encS l[i].2)[j]? = some c → (l.flatMap encT)[i * 8 + 4 + 0 + j]? = some c := fun j c h => by
  have := flat_at encT_len l i _ (List.getElem?_eq_getElem hi) (4 + j) c (by
    unfold encT
    rw [List.getElem?_append_right (by rw [encS_len]; omega), encS_len, show 4 + j - 4 = j by omega]
    exact h)
  rw [← this]; congr 1; omega
theorem e55 : Value.agg #[U 55, U 0, U 0, U 0, U 0, U 0, U 0, U 0] = .agg (encT (55, 0)).toArray := by kernel_rfl

def ann6 : Ann := ⟨[(2, ([6, 7], [])), (10, ([8, 9], [])), (21, ([6, 15], [])), (26, ([16], [])), (30, ([11, 17], [])), (34, ([18], []))], [30, 31, 35], 70, [(32, false), (34, false), (33, false)], [], none, []⟩
theorem vc6 (X : Ctx) (β : Nat → Nat) (x0 x1 x2 : Value) : (run Tryd.prog ann6 6 [.x (.v 0), .x (.v 1), .x (.v 2)] [] [] 4).den X (env0 [x0, x1, x2] X.w0) 4 β 0 (fun _ _ _ => False) = (
  ∃ (I0 : List Value → World → Prop) (μ0 : List Value → World → Nat), (∀ w, KnownV X X.w0 [] [] w → I0 [(.bool false), (.int .i64 (-1))] w) ∧ ∀ x4 x5 w6, I0 [x4, x5] w6 →
    Ask (rBin X.P .lss 3 false true x5 (J 40)) fun x7 =>
    (∃ t, x7 = .bool t) ∧ (x7 = .bool true →
      AskF X 30 [x5] fun x8 =>
      AskF X 31 [x5] fun x9 =>
      Ask (rBin X.P .neq 3 false false x8 x9) fun x10 =>
      (∃ t, x10 = .bool t) ∧ (x10 = .bool true →
        Ret X w6 [] [] (.bool false)) ∧ (x10 = .bool false →
        Ask (rBin X.P .add 3 false true x5 (J 1)) fun x11 =>
        Again X w6 [] [] fun w => I0 [x4, x11] w ∧ μ0 [x4, x11] w < μ0 [x4, x5] w6)) ∧ (x7 = .bool false →
      AskF X 30 [x2] fun x8 =>
      AskF X 31 [x2] fun x9 =>
      Ask (rBin X.P .neq 3 false false x8 x9) fun x10 =>
      AskGF X [(x10, false)] 30 [(J 8192)] fun x11 =>
      AskGF X [(x10, false)] 31 [(J 8192)] fun x12 =>
      AskG [(x10, false)] (rBin X.P .neq 3 false false x11 x12) fun x13 =>
      Ask (rPick x10 (.bool true) x13) fun x14 =>
      AskGF X [(x14, false)] 30 [(J 8193)] fun x15 =>
      AskG [(x14, false)] (rBin X.P .neq 3 false true x15 (J 0)) fun x16 =>
      Ask (rPick x14 (.bool true) x16) fun x17 =>
      (∃ t, x17 = .bool t) ∧ (x17 = .bool true →
        Ret X w6 [] [] (.bool false)) ∧ (x17 = .bool false →
        ∃ (I0 : List Value → World → Prop) (μ0 : List Value → World → Nat), (∀ w, KnownV X w6 [] [] w → I0 [(.slice none 0 0), (J 0)] w) ∧ ∀ x18 x19 w20, I0 [x18, x19] w20 →
          Ask (rLen X.P 59 x1) fun x21 =>
          Ask (rBin X.P .lss 3 false false x19 x21) fun x22 =>
          (∃ t, x22 = .bool t) ∧ (x22 = .bool true →
            Ask (rIad X.P 59 x1 x19) fun x23 =>
            Ask (rLoad X w20 [] 24 x23) fun x24 =>
            Ask (rAgg 4 x24) fun x25 =>
            Ask (rSel (aggArr x25) 0 1 false) fun x26 =>
            Ask (rSel (aggArr x25) 1 1 false) fun x27 =>
            Ask (rSel (aggArr x25) 2 1 false) fun x28 =>
            Ask (rSel (aggArr x25) 3 1 false) fun x29 =>
            AskO X w20 [] [] false (Go.Op.buildSlice 27 1 #[(0, Go.Operand.tmp 53)]) 27 [(53, (.agg #[x26, x27, x28, x29]))] fun x30 w30 =>
            AskO X w30 [] [] true (appOp (.tmp 48) (.tmp 54) 27) 27 [(48, x18), (54, x30)] fun x31 w31 =>
            Ask (rBin X.P .add 3 false true x19 (J 1)) fun x32 =>
            Again X w31 [] [] fun w => I0 [x31, x32] w ∧ μ0 [x31, x32] w < μ0 [x18, x19] w20) ∧ (x22 = .bool false →
            AskW X w20 [] [] false 32 [x0] fun x23 w23 =>
            AskW X w23 [] [] false 33 [x23, x18] fun x24 w24 =>
            Ask (rExt X.P x24 0) fun x25 =>
            Ask (rExt X.P x24 1) fun x26 =>
            AskW X w24 [] [] false 33 [x23, x18] fun x27 w27 =>
            Ask (rExt X.P x27 0) fun x28 =>
            Ask (rExt X.P x27 1) fun _ =>
            Ask (rLen X.P 59 x0) fun x30 =>
            Ask (rLen X.P 59 x1) fun x31 =>
            Ask (rBin X.P .neq 3 false false x30 x31) fun x32 =>
            (∃ t, x32 = .bool t) ∧ (x32 = .bool true →
              Ask (rBin X.P .eql 65 false true x26 (J 2)) fun x33 =>
              AskG [(x33, true)] (rLen X.P 88 x25) fun x34 =>
              AskG [(x33, true)] (rBin X.P .eql 3 false true x34 (J 0)) fun x35 =>
              Ask (rPick x33 x35 (.bool false)) fun x36 =>
              Ret X w27 [] [] x36) ∧ (x32 = .bool false →
              Ask (rBin X.P .neq 65 false true x26 (J 0)) fun x33 =>
              AskG [(x33, false)] (rLen X.P 88 x25) fun x34 =>
              AskG [(x33, false)] (rLen X.P 59 x0) fun x35 =>
              AskG [(x33, false)] (rBin X.P .neq 3 false false x34 x35) fun x36 =>
              Ask (rPick x33 (.bool true) x36) fun x37 =>
              AskG [(x37, false)] (rLen X.P 88 x28) fun x38 =>
              AskG [(x37, false)] (rLen X.P 59 x0) fun x39 =>
              AskG [(x37, false)] (rBin X.P .neq 3 false false x38 x39) fun x40 =>
              Ask (rPick x37 (.bool true) x40) fun x41 =>
              AskGW X [(x41, false)] w27 [] [] false 34 [x23, x0] fun x42 w42 =>
              AskG [(x41, false)] (rUn X.P .not x42) fun x43 =>
              Ask (rPick x41 (.bool true) x43) fun x44 =>
              (∃ t, x44 = .bool t) ∧ (x44 = .bool true →
                Ret X w42 [] [] (.bool false)) ∧ (x44 = .bool false →
                ∃ (I0 : List Value → World → Prop) (μ0 : List Value → World → Nat), (∀ w, KnownV X w42 [] [] w → I0 [x4, (J 0)] w) ∧ ∀ x45 x46 w47, I0 [x45, x46] w47 →
                  Ask (rLen X.P 88 x25) fun x48 =>
                  Ask (rBin X.P .lss 3 false false x46 x48) fun x49 =>
                  (∃ t, x49 = .bool t) ∧ (x49 = .bool true →
                    Ask (rIad X.P 88 x25 x46) fun x50 =>
                    Ask (rFad X.P 93 x50 0) fun x51 =>
                    Ask (rLoad X w47 [] 24 x51) fun x52 =>
                    AskF X 35 [x52] fun x53 =>
                    Ask (rIad X.P 59 x0 x46) fun x54 =>
                    Ask (rLoad X w47 [] 24 x54) fun x55 =>
                    AskF X 35 [x55] fun x56 =>
                    Ask (rBin X.P .neq 24 false false x53 x56) fun x57 =>
                    AskG [(x57, false)] (rIad X.P 88 x25 x46) fun x58 =>
                    AskG [(x57, false)] (rFad X.P 93 x58 1) fun x59 =>
                    AskG [(x57, false)] (rFad X.P 26 x59 0) fun x60 =>
                    AskG [(x57, false)] (rLoad X w47 [] 24 x60) fun x61 =>
                    AskGF X [(x57, false)] 35 [x61] fun x62 =>
                    AskG [(x57, false)] (rIad X.P 59 x1 x46) fun x63 =>
                    AskG [(x57, false)] (rLoad X w47 [] 24 x63) fun x64 =>
                    AskGF X [(x57, false)] 35 [x64] fun x65 =>
                    AskG [(x57, false)] (rBin X.P .neq 24 false false x62 x65) fun x66 =>
                    Ask (rPick x57 (.bool true) x66) fun x67 =>
                    (∃ t, x67 = .bool t) ∧ (x67 = .bool true →
                      Ret X w47 [] [] (.bool false)) ∧ (x67 = .bool false →
                      Ask (rBin X.P .add 3 false true x46 (J 1)) fun x68 =>
                      Again X w47 [] [] fun w => I0 [x45, x68] w ∧ μ0 [x45, x68] w < μ0 [x45, x46] w47)) ∧ (x49 = .bool false →
                    ∃ (I0 : List Value → World → Prop) (μ0 : List Value → World → Nat), (∀ w, KnownV X w47 [] [] w → I0 [(J 0)] w) ∧ ∀ x50 w51, I0 [x50] w51 →
                      Ask (rLen X.P 88 x25) fun x52 =>
                      Ask (rBin X.P .lss 3 false false x50 x52) fun x53 =>
                      (∃ t, x53 = .bool t) ∧ (x53 = .bool true →
                        Ask (rIad X.P 88 x25 x50) fun x54 =>
                        AskO X w51 [] [] true (Go.Op.store 93 (Go.Operand.tmp 147) (Go.Operand.tmp 146)) 0 [(147, x54), (146, (.agg #[(U 55), (U 0), (U 0), (U 0), (U 0), (U 0), (U 0), (U 0)]))] fun _ w55 =>
                        Ask (rBin X.P .add 3 false true x50 (J 1)) fun x56 =>
                        Again X w55 [] [] fun w => I0 [x56] w ∧ μ0 [x56] w < μ0 [x50] w51) ∧ (x53 = .bool false →
                        ∃ (I0 : List Value → World → Prop) (μ0 : List Value → World → Nat), (∀ w, KnownV X w51 [] [] w → I0 [x25, (J 0)] w) ∧ ∀ x54 x55 w56, I0 [x54, x55] w56 →
                          Ask (rBin X.P .lss 3 false true x55 (J 40)) fun x57 =>
                          (∃ t, x57 = .bool t) ∧ (x57 = .bool true →
                            AskO X w56 [] [] false (Go.Op.buildSlice 88 1 #[(0, Go.Operand.tmp 154)]) 88 [(154, (.agg #[(U 55), (U 0), (U 0), (U 0), (U 0), (U 0), (U 0), (U 0)]))] fun x58 w58 =>
                            AskO X w58 [] [] true (appOp (.tmp 152) (.tmp 155) 88) 88 [(152, x54), (155, x58)] fun x59 w59 =>
                            Ask (rBin X.P .add 3 false true x55 (J 1)) fun x60 =>
                            Again X w59 [] [] fun w => I0 [x59, x60] w ∧ μ0 [x59, x60] w < μ0 [x54, x55] w56) ∧ (x57 = .bool false →
                            ∃ (I0 : List Value → World → Prop) (μ0 : List Value → World → Nat), (∀ w, KnownV X w56 [] [] w → I0 [(J 0)] w) ∧ ∀ x58 w59, I0 [x58] w59 →
                              Ask (rLen X.P 88 x28) fun x60 =>
                              Ask (rBin X.P .lss 3 false false x58 x60) fun x61 =>
                              (∃ t, x61 = .bool t) ∧ (x61 = .bool true →
                                Ask (rIad X.P 88 x28 x58) fun x62 =>
                                Ask (rFad X.P 93 x62 0) fun x63 =>
                                Ask (rLoad X w59 [] 24 x63) fun x64 =>
                                AskF X 35 [x64] fun x65 =>
                                Ask (rIad X.P 59 x0 x58) fun x66 =>
                                Ask (rLoad X w59 [] 24 x66) fun x67 =>
                                AskF X 35 [x67] fun x68 =>
                                Ask (rBin X.P .neq 24 false false x65 x68) fun x69 =>
                                AskG [(x69, false)] (rIad X.P 88 x28 x58) fun x70 =>
                                AskG [(x69, false)] (rFad X.P 93 x70 1) fun x71 =>
                                AskG [(x69, false)] (rFad X.P 26 x71 0) fun x72 =>
                                AskG [(x69, false)] (rLoad X w59 [] 24 x72) fun x73 =>
                                AskGF X [(x69, false)] 35 [x73] fun x74 =>
                                AskG [(x69, false)] (rIad X.P 59 x1 x58) fun x75 =>
                                AskG [(x69, false)] (rLoad X w59 [] 24 x75) fun x76 =>
                                AskGF X [(x69, false)] 35 [x76] fun x77 =>
                                AskG [(x69, false)] (rBin X.P .neq 24 false false x74 x77) fun x78 =>
                                Ask (rPick x69 (.bool true) x78) fun x79 =>
                                (∃ t, x79 = .bool t) ∧ (x79 = .bool true →
                                  Ret X w59 [] [] (.bool false)) ∧ (x79 = .bool false →
                                  Ask (rBin X.P .add 3 false true x58 (J 1)) fun x80 =>
                                  Again X w59 [] [] fun w => I0 [x80] w ∧ μ0 [x80] w < μ0 [x58] w59)) ∧ (x61 = .bool false →
                                AskW X w59 [] [] false 34 [x23, x0] fun x62 w62 =>
                                Ret X w62 [] [] x62)))))))))) := by kernel_rfl
def cMsmZips : Contract := fnW (Cods.cons cLS (Cods.cons cLS (Cods.cons cI Cods.nil))) (fun p _ => p.1.length ≤ mx ∧ p.2.1.length ≤ mx) (fun _ _ v _ => v = .bool true)
/-- The terms are the scalars and the elements: one round of the look. -/
theorem keepsMsmZips : Keeps1 Tryd.prog GT 6 cMsmZips := by
  refine keepsW (T := Tmz) (A := ann6) hMix keepTmz hGT (calls_of (by kernel_rfl)) (callsW_of (by kernel_rfl)) fun args ⟨ks, ps, n, _⟩ w0 hrd hpre _ => ?_
  obtain ⟨c, _, rfl, hc, x, _, rfl, hl, y, _, rfl, rfl, rfl⟩ := hrd
  dsimp only at hc hl hpre
  refine ⟨[.x (.v 0), .x (.v 1), .x (.v 2)], [], [], 4, env0 [c, x, .int .i64 n] w0, fun b => b, 0, rfl, rfl, fun X hX => mem_none hX rfl, fun X hP hS hw hX hR => ?_⟩
  subst hw; try dsimp only at hR
  rw [vc6 X]
  replace hc : Ls encS okS X.w0 c ks := hc
  replace hl : Ls encS okS X.w0 x ps := hl
  have same : ∀ (i : Int) (R : Value → Value → Prop), (∀ m, IsBound i m → R (J m) (J m)) → AskF X 30 [.int .i64 i] fun a => AskF X 31 [.int .i64 i] fun b => R a b := fun i R h => by
    refine call_P hS (T := Tmz) (f := 30) rfl i trivial fun v ⟨m, hv, hm⟩ => ?_
    subst hv
    refine call_P hS (T := Tmz) (f := 31) rfl i trivial fun v ⟨m', hv, hm'⟩ => ?_
    subst hv
    obtain rfl := hm.unique hm'
    exact h m hm
  refine ⟨fun a w => ∃ i : Int, a = [.bool false, .int .i64 i] ∧ -1 ≤ i ∧ i ≤ 40 ∧ Kn X w, fun a _ => match a with | [_, .int _ i] => (40 - i).toNat | _ => 0, fun w hw => ⟨-1, rfl, by decide, by decide, hw.kn⟩, ?_⟩
  rintro _ _ w6 ⟨i, he, hi1, hi2, kn6⟩
  simp only [List.cons.injEq, and_true] at he
  obtain ⟨rfl, rfl⟩ := he
  rw [ask_lss]
  refine a_ifD (fun hlt => ?_) fun _ => ?_
  · refine same i _ fun m hm => ?_
    rw [ask_neqN, decide_eq_true rfl]
    refine a_if (fun h => by cases h) fun _ => ?_
    rw [ask_iadd (wrap_i64 (by omega) (by omega))]
    intro w2 hw2
    have hlt : i < 40 := hlt
    exact ⟨⟨i + 1, rfl, by omega, by omega, hw2.kn⟩, by simp only; omega⟩
  refine same n _ fun m hm => ?_
  rw [ask_neqN, decide_eq_true rfl]
  have on : condsV [(Value.bool (!true), false)] := by simp [condsV]
  have on2 : condsV [(Value.bool false, false)] := by simp [condsV]
  refine a_GF_on on (call_P hS (T := Tmz) (f := 30) rfl (8192 : Int) trivial fun v ⟨m1, hv, hm1⟩ => ?_)
  subst hv
  refine a_GF_on on (call_P hS (T := Tmz) (f := 31) rfl (8192 : Int) trivial fun v ⟨m2, hv, hm2⟩ => ?_)
  subst hv
  obtain rfl := hm1.unique hm2
  refine a_G_on on ?_
  rw [ask_neqN, decide_eq_true rfl, show (!true) = false from rfl, ask_pickF]
  refine a_GF_on on2 (call_P hS (T := Tmz) (f := 30) rfl (8193 : Int) trivial fun v ⟨m2, hv, hm3⟩ => ?_)
  subst hv
  have hm0 : m2 = 0 := by
    rcases hm3 with ⟨_, h⟩ | ⟨_, h, _⟩
    · exact h
    · omega
  subst hm0
  refine a_G_on on2 ?_
  rw [ask_neqN, decide_eq_true rfl, show (!true) = false from rfl, ask_pickF]
  refine a_if (fun h => by cases h) fun _ => ?_
  -- the elements
  refine ⟨fun a w => ∃ (k : Nat) (o : Value), a = [o, J k] ∧ k ≤ ps.length ∧ w.ownsRow X.w0.heap.size 26 4 o k ((ps.take k).flatMap encS) ∧ Kn X w, fun a _ => match a with | [_, i] => ps.length - intNat i | _ => 0, fun w hw => ⟨0, _, rfl, Nat.zero_le _, World.ownsRow_nil _ _ _ _, hw.kn⟩, ?_⟩
  rintro o _ w ⟨k, _, he, hk, ho, hkn⟩
  simp only [List.cons.injEq, and_true] at he
  obtain ⟨rfl, rfl⟩ := he
  refine a_len hP tyS hl.1 ?_
  rw [ask_lssN]
  refine a_ifD (fun hlt => ?_) fun hge => ?_
  · refine ld_S hP hkn (hl.1.stp0 (hkn.stp0 hX)) rfl rfl hlt (fun _ _ => List.not_mem_nil) ?_
    rw [ask_aggS, ask_selS0, ask_selS1, ask_selS2, ask_selS3]
    refine a_push (encS ps[k]).toArray hX hP tyL rfl rfl (by decide) (by decide) (by decide) (by kernel_rfl) rfl (one_encS' _) rfl (Nat.le_refl _) hkn.sz0 ho (by simp only [maxLen, mx] at *; omega) (by simp only [mx] at *; omega) fun o' w' k' _ ho' _ => ?_
    rw [ask_succ (by simp only [mx] at *; omega)]
    intro w2 hw2
    refine ⟨⟨k + 1, o', rfl, hlt, ?_, hw2.kn⟩, by simp [intNat]; omega⟩
    rw [flat_take ps k hlt]
    exact own_stp0 ho' hw2.stp
  obtain rfl : k = ps.length := by omega
  rw [List.take_of_length_le (Nat.le_refl _)] at ho
  clear hge hk hkn
  refine call_W hX hS (T := Tmz) (f := 32) rfl (ks, ()) (fun w hw => ⟨⟨_, _, rfl, hc.stp0 (hw.kn.stp0 hX), rfl⟩, hpre.1⟩) fun v1 u1 w1 h1 k1 s1 _ o1 => ?_
  obtain ⟨mk1, gm, hgm, _⟩ := o1
  dsimp only at mk1
  have lsL : ∀ {w2}, Stp [] w w2 → Ls encS okS w2 o ps := fun hs => ⟨(own_slAt ho).stp0 hs, hl.2⟩
  refine call_W hX hS (T := Tmz) (f := 33) rfl (ks, ps, ()) (fun w2 hw => ⟨⟨_, _, rfl, mk_list (cMk_stable _ _ _ _ hw.stp mk1), _, _, rfl, lsL ((h1.stp.trans0 s1).trans0 hw.stp), rfl⟩, hpre⟩) fun v2 u2 w2 h2 k2 s2 su2 o2 => ?_
  have s02 : Stp [] w w2 := (h1.stp.trans0 s1).trans0 su2
  obtain ⟨o2n, o2e⟩ := o2
  dsimp only at o2n o2e
  rcases Nat.decEq ks.length ps.length with hlen | hlen
  · obtain rfl := o2n hlen
    rw [ask_ext0, ask_ext1]
    refine call_W hX hS (T := Tmz) (f := 33) rfl (ks, ps, ()) (fun w3 hw => ⟨⟨_, _, rfl, mk_list (cMk_stable _ _ _ _ (su2.trans0 hw.stp) mk1), _, _, rfl, lsL (s02.trans0 hw.stp), rfl⟩, hpre⟩) fun v3 u3 w3 h3 k3 s3 su3 o3 => ?_
    obtain rfl := o3.1 hlen
    rw [ask_ext0, ask_ext1]
    refine a_len hP tyS hc.1 ?_
    refine a_len hP tyS hl.1 ?_
    rw [ask_neqN, decide_eq_false hlen]
    refine a_if (fun _ => ?_) fun h => by cases h
    rw [ask_eqlN, decide_eq_true rfl]
    refine a_G_on condsV1 ?_
    refine a_lenV hP tyT ?_
    refine a_G_on condsV1 ?_
    rw [ask_eqlN, decide_eq_true rfl, ask_pickT]
    exact hR _ _ _ _ fun _ _ => rfl
  obtain ⟨ts, rfl, ⟨gt, hgt⟩, ot⟩ := o2e hlen
  rw [ask_ext0, ask_ext1]
  refine call_W hX hS (T := Tmz) (f := 33) rfl (ks, ps, ()) (fun w3 hw => ⟨⟨_, _, rfl, mk_list (cMk_stable _ _ _ _ (su2.trans0 hw.stp) mk1), _, _, rfl, lsL (s02.trans0 hw.stp), rfl⟩, hpre⟩) fun v3 u3 w3 h3 k3 s3 su3 o3 => ?_
  obtain ⟨us, rfl, ⟨gu, hgu⟩, ou⟩ := o3.2 hlen
  dsimp only at ou
  rw [ask_ext0, ask_ext1]
  refine a_len hP tyS hc.1 ?_
  refine a_len hP tyS hl.1 ?_
  rw [ask_neqN, decide_eq_true hlen]
  refine a_if (fun h => by cases h) fun _ => ?_
  -- lengths
  have lt_ := own_slAt ot
  have lu_ := own_slAt ou
  rw [ask_neqN, decide_eq_true rfl]
  refine a_G_on on ?_
  refine a_len hP tyT lt_ ?_
  refine a_G_on on ?_
  refine a_len hP tyS hc.1 ?_
  refine a_G_on on ?_
  rw [ask_neqN, decide_eq_true rfl, show (!true) = false from rfl, ask_pickF]
  refine a_G_on on2 ?_
  refine a_len hP tyT lu_ ?_
  refine a_G_on on2 ?_
  refine a_len hP tyS hc.1 ?_
  refine a_G_on on2 ?_
  rw [ask_neqN, decide_eq_true rfl, show (!true) = false from rfl, ask_pickF]
  have mk3 : cMk.rd w3 v1 ks := cMk_stable _ _ _ _ (su2.trans0 su3) mk1
  refine a_GW_on on2 (call_W hX hS (T := Tmz) (f := 34) rfl (ks, ks, ()) (fun w hw => ⟨⟨_, _, rfl, cMk_stable _ _ _ _ hw.stp mk3, _, _, rfl, hc.stp0 (hw.kn.stp0 hX), rfl⟩, rfl, hpre.1⟩) fun v4 u4 w4 h4 k4 s4 su4 o4 => ?_)
  subst o4
  refine a_G_on on2 ?_
  rw [ask_not, show (!true) = false from rfl, ask_pickF]
  refine a_if (fun h => by cases h) fun _ => ?_
  -- what holds from here on
  have bt := ot.lt gt hgt
  have bu := ou.lt gu hgu
  have gtu : gt ≠ gu := by have := h3.size; omega
  have bm : gm < u2.heap.size := by
    obtain ⟨g, cap, e, hm, _⟩ := mk1
    have := slAt_low hm (by rw [flat_len encS_len]; simp) gm (by rw [e] at hgm; exact hgm)
    have := h2.size
    omega
  replace mk3 := cMk_stable _ _ _ _ su4 mk3
  replace ot := own_stp0 (own_stp0 ot su3) su4
  replace ou := own_stp0 ou su4
  have hz : (ks.zip ps).length = ks.length := by simp; omega
  have look : ∀ (i : Nat) (v : Value) (u : World) (K : Value → Prop), i < ks.length → Kn X u → SlAt u v ks.length ((ks.zip ps).flatMap encT) → K (.bool false) →
      Ask (rIad X.P 88 v (J i)) fun x50 => Ask (rFad X.P 93 x50 0) fun x51 => Ask (rLoad X u [] 24 x51) fun x52 => AskF X 35 [x52] fun x53 =>
      Ask (rIad X.P 59 c (J i)) fun x54 => Ask (rLoad X u [] 24 x54) fun x55 => AskF X 35 [x55] fun x56 => Ask (rBin X.P .neq 24 false false x53 x56) fun x57 =>
      AskG [(x57, false)] (rIad X.P 88 v (J i)) fun x58 => AskG [(x57, false)] (rFad X.P 93 x58 1) fun x59 => AskG [(x57, false)] (rFad X.P 26 x59 0) fun x60 => AskG [(x57, false)] (rLoad X u [] 24 x60) fun x61 => AskGF X [(x57, false)] 35 [x61] fun x62 =>
      AskG [(x57, false)] (rIad X.P 59 x (J i)) fun x63 => AskG [(x57, false)] (rLoad X u [] 24 x63) fun x64 => AskGF X [(x57, false)] 35 [x64] fun x65 => AskG [(x57, false)] (rBin X.P .neq 24 false false x62 x65) fun x66 => Ask (rPick x57 (.bool true) x66) K := fun i v u K hi hk hv hK => by
    have hip : i < ps.length := by omega
    have hiz : i < (ks.zip ps).length := by omega
    have e1 : (ks.zip ps)[i].1 = ks[i] := by simp
    have e2 : (ks.zip ps)[i].2 = ps[i] := by simp
    have o1 := hc.2 _ (List.getElem_mem hi)
    have o2 := hl.2 _ (List.getElem_mem hip)
    refine a_iadN hP tyT hv hi ?_
    refine a_fad hv (by omega) hP fdK ?_
    refine a_load_agg (cs := encS ks[i]) hk hv (by rw [hP]; exact aggS) (by rw [hP]; exact szS) (fun _ _ => List.not_mem_nil) (by simp [encS]) (by rw [← e1]; exact encT_K hiz) ?_
    refine call_PE hS (T := Tmz) (f := 35) rfl ks[i] o1 ?_
    refine ld_S hP hk (hc.1.stp0 (hk.stp0 hX)) rfl rfl hi (fun _ _ => List.not_mem_nil) ?_
    refine call_PE hS (T := Tmz) (f := 35) rfl ks[i] o1 ?_
    rw [ask_neqS (hP ▸ a4S) (lm_lt _) (lm_lt _), decide_eq_true rfl]
    refine a_G_on on (a_iadN hP tyT hv hi ?_)
    refine a_G_on on (a_fad hv (by omega) hP fdP ?_)
    refine a_G_on on (a_fad hv (by omega) hP fdL ?_)
    refine a_G_on on (a_load_agg (cs := encS ps[i]) hk hv (by rw [hP]; exact aggS) (by rw [hP]; exact szS) (fun _ _ => List.not_mem_nil) (by simp [encS]) (by rw [← e2]; exact encT_P hiz) ?_)
    refine a_GF_on on (call_PE hS (T := Tmz) (f := 35) rfl ps[i] o2 ?_)
    have hl' := hl.1.stp0 (hk.stp0 hX)
    refine a_G_on on (a_iadN hP tyS hl' hip ?_)
    refine a_G_on on (a_load_agg (cs := encS ps[i]) hk hl' (by rw [hP]; exact aggS) (by rw [hP]; exact szS) (fun _ _ => List.not_mem_nil) (by simp [encS]) (flat_at encS_len ps i _ (List.getElem?_eq_getElem hip)) ?_)
    refine a_GF_on on (call_PE hS (T := Tmz) (f := 35) rfl ps[i] o2 ?_)
    refine a_G_on on ?_
    rw [ask_neqS (hP ▸ a4S) (lm_lt _) (lm_lt _), decide_eq_true rfl, show (!true) = false from rfl, ask_pickF]
    exact hK
  -- the terms
  refine ⟨fun a w => ∃ k : Nat, a = [.bool false, J k] ∧ k ≤ ks.length ∧ Stp [] w4 w ∧ Kn X w, fun a _ => match a with | [_, i] => ks.length - intNat i | _ => 0, fun w hw => ⟨0, rfl, Nat.zero_le _, hw.stp, hw.kn⟩, ?_⟩
  rintro _ _ w5 ⟨k, he, hk, s5, k5⟩
  simp only [List.cons.injEq, and_true] at he
  obtain ⟨rfl, rfl⟩ := he
  refine a_len hP tyT lt_ ?_
  rw [ask_lssN]
  refine a_ifD (fun hlt => ?_) fun _ => ?_
  · refine look k ts w5 _ hlt k5 ((own_slAt ot).stp0 s5) ?_
    refine a_if (fun h => by cases h) fun _ => ?_
    rw [ask_succ (by simp only [mx] at *; omega)]
    intro w2 hw2
    exact ⟨⟨k + 1, rfl, hlt, s5.trans0 hw2.stp, hw2.kn⟩, by simp [intNat]; omega⟩
  replace ot := own_stp0 ot s5
  replace ou := own_stp0 ou s5
  replace mk3 := cMk_stable _ _ _ _ s5 mk3
  clear hk s5
  have szu : X.w0.heap.size ≤ u2.heap.size := h2.sz0
  -- written over
  have offu : ∀ b, us.ownBlock = some b → b ∉ ts.ownBlock.toList := fun b hb hm => by
    rw [hgu] at hb; rw [hgt] at hm; cases hb; simp at hm; exact gtu hm.symm
  have offm : ∀ b, v1.ownBlock = some b → b ∉ ts.ownBlock.toList := fun b hb hm => by
    rw [hgm] at hb; rw [hgt] at hm; cases hb; simp at hm; have := bt.1; omega
  refine ⟨fun a w => ∃ (k : Nat) (xs : List Value), a = [J k] ∧ k ≤ ks.length ∧ w.ownsRow u2.heap.size 93 8 ts ks.length xs ∧ w.ownsRow u3.heap.size 93 8 us ks.length ((ks.zip ps).flatMap encT) ∧ cMk.rd w v1 ks ∧ Kn X w, fun a _ => match a with | [i] => ks.length - intNat i | _ => 0,
    fun w hw => ⟨0, _, rfl, Nat.zero_le _, own_stp0 ot hw.stp, own_stp0 ou hw.stp, cMk_stable _ _ _ _ hw.stp mk3, hw.kn⟩, ?_⟩
  rintro _ w6 ⟨k, xs, he, hk, ot6, ou6, mk6, k6⟩
  simp only [List.cons.injEq, and_true] at he
  subst he
  refine a_len hP tyT lt_ ?_
  rw [ask_lssN]
  refine a_ifD (fun hlt => ?_) fun _ => ?_
  · rw [e55]
    refine a_iadN hP tyT (own_slAt ot6) hlt ?_
    refine a_store (x := .agg (encT (55, 0)).toArray) (vs := encT (55, 0)) hX hP szT rfl rfl rfl rfl (one_encT _) ot6 szu (by omega) (by decide) (fun _ _ => List.not_mem_nil) (fun _ _ _ _ => List.not_mem_nil) fun _ w3 w4 hw3 k4 s4 su o4 => ?_
    rw [ask_succ (by simp only [mx] at *; omega)]
    intro w7 hw7
    exact ⟨⟨k + 1, _, rfl, hlt, own_stp0 o4 hw7.stp, own_stp0 (own_stp ou6 (by simpa using su) offu) hw7.stp, cMk_stable _ _ _ _ hw7.stp (mk_stp mk6 (by simpa using su) offm), hw7.kn⟩, by simp [intNat]; omega⟩
  -- grown
  refine ⟨fun a w => ∃ (k m : Nat) (o : Value) (xs : List Value), a = [o, J k] ∧ k ≤ 40 ∧ m ≤ ks.length + k ∧ w.ownsRow u2.heap.size 93 8 o m xs ∧ (∀ b, o.ownBlock = some b → b ≠ gu) ∧ w.ownsRow u3.heap.size 93 8 us ks.length ((ks.zip ps).flatMap encT) ∧ cMk.rd w v1 ks ∧ Kn X w, fun a _ => match a with | [_, i] => 40 - intNat i | _ => 0,
    fun w hw => ⟨0, ks.length, ts, xs, rfl, Nat.zero_le _, Nat.le_refl _, own_stp0 ot6 hw.stp, fun b hb => by rw [hgt] at hb; cases hb; exact gtu, own_stp0 ou6 hw.stp, cMk_stable _ _ _ _ hw.stp mk6, hw.kn⟩, ?_⟩
  rintro o _ w7 ⟨k, m, _, xs, he, hk, hm, ot7, hne, ou7, mk7, k7⟩
  simp only [List.cons.injEq, and_true] at he
  obtain ⟨rfl, rfl⟩ := he
  rw [ask_lssN]
  refine a_ifD (fun hlt => ?_) fun _ => ?_
  · rw [e55]
    have low7 : u2.heap.size ≤ w7.heap.size := by have := (ou7.lt gu hgu); have := s2.size; have := h3.size; omega
    refine a_push (encT (55, 0)).toArray hX hP tyT rfl rfl (by decide) (by decide) (by decide) (by kernel_rfl) rfl (by simpa using one_encT (55, 0)) rfl szu low7 ot7 (by simp only [maxLen, mx] at *; omega) (by simp only [mx] at *; omega) fun o' w' k' s' ho' hb' => ?_
    rw [ask_succ (by omega)]
    intro w8 hw8
    refine ⟨⟨k + 1, m + 1, o', _, rfl, by omega, by omega, own_stp0 ho' hw8.stp, fun b hb => ?_, own_stp0 (own_stp ou7 s' fun b hb hm => ?_) hw8.stp, cMk_stable _ _ _ _ hw8.stp (mk_stp mk7 s' fun b hb hm => ?_), hw8.kn⟩, by simp [intNat]; omega⟩
    · rcases hb' with h | ⟨g, h, hg⟩
      · exact hne b (by rw [← h]; exact hb)
      · rw [h] at hb; cases hb
        have := (ou7.lt gu hgu).2
        omega
    · rw [hgu] at hb; cases hb
      exact hne gu (by simpa using hm) rfl
    · rw [hgm] at hb; cases hb
      have := (ot7.lt gm (by simpa using hm)).1
      omega
  -- the other terms
  refine ⟨fun a w => ∃ k : Nat, a = [J k] ∧ k ≤ ks.length ∧ Stp [] w7 w ∧ Kn X w, fun a _ => match a with | [i] => ks.length - intNat i | _ => 0, fun w hw => ⟨0, rfl, Nat.zero_le _, hw.stp, hw.kn⟩, ?_⟩
  rintro _ w8 ⟨k, he, hk, s8, k8⟩
  simp only [List.cons.injEq, and_true] at he
  subst he
  refine a_len hP tyT lu_ ?_
  rw [ask_lssN]
  refine a_ifD (fun hlt => ?_) fun _ => ?_
  · refine look k us w8 _ hlt k8 ((own_slAt ou7).stp0 s8) ?_
    refine a_if (fun h => by cases h) fun _ => ?_
    rw [ask_succ (by simp only [mx] at *; omega)]
    intro w2 hw2
    exact ⟨⟨k + 1, rfl, hlt, s8.trans0 hw2.stp, hw2.kn⟩, by simp [intNat]; omega⟩
  refine call_W hX hS (T := Tmz) (f := 34) rfl (ks, ks, ()) (fun w hw => ⟨⟨_, _, rfl, cMk_stable _ _ _ _ (s8.trans0 hw.stp) mk7, _, _, rfl, hc.stp0 (hw.kn.stp0 hX), rfl⟩, rfl, hpre.1⟩) fun v9 u9 w9 h9 k9 s9 su9 o9 => ?_
  subst o9
  exact hR _ _ _ _ fun _ _ => rfl
#print axioms keepsMsmZips
end Go.Vc
