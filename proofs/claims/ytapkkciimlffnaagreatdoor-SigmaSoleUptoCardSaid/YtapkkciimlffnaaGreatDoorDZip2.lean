/-
  Lists with a mark behind them; terms of two lists.
-/
import Derived.Test.YtapkkciimlffnaaGreatDoorDGen
import Derived.Test.YtapkkciimlffnaaGreatDoorDZip
namespace Go.Vc
open Go Go.Proofs Go.RowKit

/-! ### a list with a mark behind it -/
theorem ok77 : okS 77 := by unfold okS; decide
/-- A list, and the mark 77 behind it. -/
def cMk : Cod (List Nat) := ⟨fun w v l => ∃ g cap, v = .slice (some ⟨g, 0, none⟩) l.length cap ∧ SlAt w (.slice (some ⟨g, 0, none⟩) (l.length + 1) cap) (l.length + 1) ((l ++ [77]).flatMap encS) ∧ ∀ x ∈ l, okS x, fun w v a b ⟨g, cap, e, h, ok⟩ ⟨g', cap', e', h', ok'⟩ => by
  rw [e] at e'
  simp only [Value.slice.injEq, Option.some.injEq, Addr.mk.injEq, and_true] at e'
  obtain ⟨rfl, hl, rfl⟩ := e'
  rw [← hl] at h'
  have hx := (slAt_inj (by rw [flat_len encS_len, flat_len encS_len]; simp [hl]) h h').2
  have := flat_inj encS_len (fun _ _ ha hb h => encS_inj ha hb h) (a ++ [77]) (b ++ [77]) (fun x hx => (List.mem_append.1 hx).elim (ok x) (fun h => by simp at h; subst h; exact ok77)) (fun x hx => (List.mem_append.1 hx).elim (ok' x) (fun h => by simp at h; subst h; exact ok77)) (by simp [hl]) hx
  exact (List.append_inj this hl).1⟩
theorem cMk_stable : cMk.Stable := fun _ _ _ _ hs ⟨g, cap, e, h, ok⟩ => ⟨g, cap, e, h.stp0 hs, ok⟩
theorem slAt_cap {w : World} {a : Option Addr} {n cap m : Nat} {xs : List Value} (h : SlAt w (.slice a n cap) m xs) : m = n ∧ n ≤ cap := by
  rcases h with ⟨hv, rfl, _⟩ | ⟨b, o, cap', hv, hn, _⟩
  · cases hv; exact ⟨rfl, Nat.le_refl _⟩
  · cases hv; exact ⟨rfl, hn.1⟩
theorem mk_list {w : World} {v : Value} {l : List Nat} (h : cMk.rd w v l) : Ls encS okS w v l := by
  obtain ⟨g, cap, rfl, h, ok⟩ := h
  refine ⟨?_, ok⟩
  have hc := (slAt_cap h).2
  have := sub_first (m := [77]) h
  rw [sub_zero] at this
  exact this

def cCopied7 : Contract := fnW (Cods.cons cLS Cods.nil) (fun p _ => p.1.length ≤ mx) (fun p w v w' => cMk.rd w' v p.1 ∧ ∃ g, v.ownBlock = some g ∧ w.heap.size ≤ g)
theorem own_form {w : World} {base size n : Nat} {e : TypeId} {v : Value} {xs : List Value} (h : w.ownsRow base e size v n xs) (hn : 0 < n) : ∃ g cap, v = .slice (some ⟨g, 0, none⟩) n cap ∧ base ≤ g := by
  rcases h.2 with ⟨_, h0⟩ | ⟨g, cap, cur, rfl, hb, _⟩
  · omega
  · exact ⟨g, cap, rfl, hb⟩
/-- A load of element i. -/
theorem ld_S {X : Ctx} {u : World} {v : Value} {xs : List Value} {l : List Nat} {n i : Nat} {ow : List Nat} {K : Value → Prop} (hP : X.P = Tryz.prog) (hk : Kn X u) (h : SlAt u v n xs) (hx : xs = l.flatMap encS) (hn : l.length = n) (hi : i < l.length) (how : ∀ b, v.ownBlock = some b → b ∉ ow)
    (hK : K (S l[i])) : Ask (rIad X.P 22 v (J i)) fun p => Ask (rLoad X u ow 25 p) K := by
  subst hx
  refine a_iadN hP tyS h (by omega) ?_
  refine a_load_agg (cs := encS l[i]) hk h (by rw [hP]; exact aggS) (by rw [hP]; exact szS) how (by simp [encS]) (flat_at encS_len l i _ (List.getElem?_eq_getElem hi)) ?_
  exact hK

def cUnt : Contract := fnW (Cods.cons cMk (Cods.cons cLS Cods.nil)) (fun p _ => p.1 = p.2.1 ∧ p.1.length ≤ mx) (fun _ _ v _ => v = .bool true)
/-! ### terms -/
def encT (p : Nat × Nat) : List Value := encS p.1 ++ encS p.2
theorem encT_len (p : Nat × Nat) : (encT p).length = 8 := rfl
theorem one_encT (p : Nat × Nat) : (encT p).all (·.oneCell') = true := by simp [encT, encS, U, Value.oneCell']
theorem tyT : ElTy Tryz.prog 112 111 8 64 (.agg #[U 0, U 0, U 0, U 0, U 0, U 0, U 0, U 0]) := ⟨by kernel_rfl, by kernel_rfl⟩
theorem szT : sz Tryz.prog 111 = some 8 := by kernel_rfl
theorem aggT : agg? Tryz.prog 111 = some true := by kernel_rfl
theorem ld_L {X : Ctx} {u : World} {v : Value} {xs : List Value} {l : List Nat} {n i : Nat} {ow : List Nat} {K : Value → Prop} (hP : X.P = Tryz.prog) (hk : Kn X u) (h : SlAt u v n xs) (hx : xs = l.flatMap encS) (hn : l.length = n) (hi : i < l.length) (how : ∀ b, v.ownBlock = some b → b ∉ ow)
    (hK : K (S l[i])) : Ask (rIad X.P 49 v (J i)) fun p => Ask (rLoad X u ow 48 p) K := by
  subst hx
  refine a_iadN hP tyL h (by omega) ?_
  refine a_load_agg (cs := encS l[i]) hk h (by rw [hP]; exact aggL) (by rw [hP]; exact szL) how (by simp [encS]) (flat_at encS_len l i _ (List.getElem?_eq_getElem hi)) ?_
  exact hK

theorem makeT (n : Nat) : (madeCells (Value.agg #[U 0, U 0, U 0, U 0, U 0, U 0, U 0, U 0]).cells (n * 8)).toList = (List.replicate n ((0, 0) : Nat × Nat)).flatMap encT := made_enc (α := Nat × Nat) (enc := encT) (a := (0, 0)) (s := 8) (by kernel_rfl) rfl (by decide) n

def ann113 : Ann := ⟨[(5, ([19], []))], [], 70, [], [8], none, [], []⟩
def kb113_0 (b0 : Nat) (x15 : Value) : List KB := [⟨b0, true, 25, (aggArr x15)⟩]
theorem vc113 (X : Ctx) (β : Nat → Nat) (x0 x1 : Value) : (run Tryz.prog ann113 113 [.x (.v 0), .x (.v 1)] [] [] 3).den X (env0 [x0, x1] X.w0) 3 β 0 (fun _ _ _ => False) = (
  Ask (rLen X.P 22 x0) fun x3 =>
  Ask (rLen X.P 49 x1) fun x4 =>
  Ask (rBin X.P .neq 3 false false x3 x4) fun x5 =>
  (∃ t, x5 = .bool t) ∧ (x5 = .bool true →
    Ret X X.w0 [] [] (.tuple #[(.slice none 0 0), (J 2)])) ∧ (x5 = .bool false →
    Ask (rLen X.P 22 x0) fun x6 =>
    AskO X X.w0 [] [] false (Go.Op.makeSlice 112 (Go.Operand.tmp 15) (Go.Operand.tmp 15)) 112 [(15, x6), (15, x6)] fun x7 w7 =>
    Ask (rLen X.P 22 x0) fun x8 =>
    ∃ (I0 : List Value → World → Prop) (μ0 : List Value → World → Nat), (∀ w, KnownV X w7 [] [] w → I0 [(J 0)] w) ∧ ∀ x9 w10, I0 [x9] w10 →
      Ask (rBin X.P .lss 3 false false x9 x8) fun x11 =>
      (∃ t, x11 = .bool t) ∧ (x11 = .bool true →
        Ask (rIad X.P 22 x0 x9) fun x12 =>
        Ask (rLoad X w10 [] 25 x12) fun x13 =>
        Ask (rAgg 4 (.agg #[(U 0), (U 0), (U 0), (U 0)])) fun _ =>
        AskNew w10 fun b0 =>
        Ask (rAgg 4 x13) fun x15 =>
        Ask (rIad X.P 49 x1 x9) fun x16 =>
        Ask (rLoad X w10 [b0] 48 x16) fun x17 =>
        Ask (rAgg 4 x15) fun x18 =>
        Ask (rSel (aggArr x18) 0 1 false) fun x19 =>
        Ask (rSel (aggArr x18) 1 1 false) fun x20 =>
        Ask (rSel (aggArr x18) 2 1 false) fun x21 =>
        Ask (rSel (aggArr x18) 3 1 false) fun x22 =>
        Ask (rAgg 4 x17) fun x23 =>
        Ask (rSel (aggArr x23) 0 1 false) fun x24 =>
        Ask (rSel (aggArr x23) 1 1 false) fun x25 =>
        Ask (rSel (aggArr x23) 2 1 false) fun x26 =>
        Ask (rSel (aggArr x23) 3 1 false) fun x27 =>
        Ask (rIad X.P 112 x7 x9) fun x28 =>
        AskO X w10 [b0] (kb113_0 b0 x15) true (Go.Op.store 111 (Go.Operand.tmp 32) (Go.Operand.tmp 31)) 0 [(32, x28), (31, (.agg #[x19, x20, x21, x22, x24, x25, x26, x27]))] fun _ w29 =>
        Ask (rBin X.P .add 3 false true x9 (J 1)) fun x30 =>
        Again X w29 [] [] fun w => I0 [x30] w ∧ μ0 [x30] w < μ0 [x9] w10) ∧ (x11 = .bool false →
        Ret X w10 [] [] (.tuple #[x7, (J 0)])))) := by kernel_rfl
def cZip : Contract := fnW (Cods.cons cLS (Cods.cons cLS Cods.nil)) (fun p _ => p.1.length ≤ mx ∧ p.2.1.length ≤ mx)
  (fun p w v w' => (p.1.length ≠ p.2.1.length → v = .tuple #[.slice none 0 0, J 2]) ∧ (p.1.length = p.2.1.length → ∃ x, v = .tuple #[x, J 0] ∧ (∃ g, x.ownBlock = some g) ∧ w'.ownsRow w.heap.size 111 8 x p.1.length ((p.1.zip p.2.1).flatMap encT)))
theorem zip_step {ks ps : List Nat} {k : Nat} (h1 : k < ks.length) (h2 : k < ps.length) (m : Nat) : (((ks.zip ps).take k ++ List.replicate (m + 1) (0, 0)).set k (ks[k], ps[k])) = (ks.zip ps).take (k + 1) ++ List.replicate m (0, 0) := by
  have hl : ((ks.zip ps).take k).length = k := by simp; omega
  rw [List.set_append_right _ _ (by omega), hl, Nat.sub_self, List.replicate_succ, List.set_cons_zero, List.take_succ_eq_append_getElem (by simp; omega)]
  simp
theorem keepsZip : Keeps1 Tryz.prog GT 113 cZip := by
  refine keepsW (T := T0) (A := ann113) hMix keepT0 hGT (calls_of (by kernel_rfl)) (callsW_of (by kernel_rfl)) fun args ⟨ks, ps, _⟩ w0 hrd hpre _ => ?_
  obtain ⟨c, _, rfl, hc, x, _, rfl, hl, rfl⟩ := hrd
  dsimp only at hc hl hpre
  refine ⟨[.x (.v 0), .x (.v 1)], [], [], 3, env0 [c, x] w0, fun b => b, 0, rfl, rfl, fun X hX => mem_none hX rfl, fun X hP hS hw hX hR => ?_⟩
  subst hw; try dsimp only at hR
  rw [vc113 X]
  replace hc : Ls encS okS X.w0 c ks := hc
  replace hl : Ls encS okS X.w0 x ps := hl
  refine a_len hP tyS hc.1 ?_
  refine a_len hP tyL hl.1 ?_
  rw [ask_neqN]
  refine a_ifN (fun hne => ?_) fun heq => ?_
  · exact hR _ _ _ _ fun w hw => ⟨fun _ => rfl, fun h => absurd h hne⟩
  refine a_len hP tyS hc.1 ?_
  refine a_make (n := ks.length) hX hP tyT rfl rfl (by simp only [mx] at *; omega) (by simp only [maxLen, mx] at *; omega) fun g w w1 hw k1 s1 _ o1 => ?_
  rw [makeT] at o1
  refine a_len hP tyS hc.1 ?_
  refine ⟨fun a w2 => ∃ k, a = [J k] ∧ k ≤ ks.length ∧ w2.ownsRow w.heap.size 111 8 (.slice (some ⟨g, 0, none⟩) ks.length ks.length) ks.length (((ks.zip ps).take k ++ List.replicate (ks.length - k) (0, 0)).flatMap encT) ∧ Kn X w2, fun a _ => match a with | [i] => ks.length - intNat i | _ => 0,
    fun w2 hw2 => ⟨0, rfl, Nat.zero_le _, by simpa using own_stp0 o1 hw2.stp, hw2.kn⟩, ?_⟩
  rintro _ w2 ⟨k, he, hk, ho, hkn⟩
  simp only [List.cons.injEq, and_true] at he
  subst he
  rw [ask_lssN]
  refine a_ifD (fun hlt => ?_) fun hge => ?_
  · have hps : k < ps.length := by omega
    refine ld_S hP hkn (hc.1.stp0 (hkn.stp0 hX)) rfl rfl hlt (fun _ _ => List.not_mem_nil) ?_
    rw [ask_zero4]; intro b0 hb0
    rw [ask_aggS]
    refine ld_L hP hkn (hl.1.stp0 (hkn.stp0 hX)) rfl rfl hps (slAt_off (hl.1.stp0 (hkn.stp0 hX)) (by rw [flat_len encS_len]; omega) (all1 hb0)) ?_
    rw [ask_aggS, ask_selS0, ask_selS1, ask_selS2, ask_selS3, ask_aggS, ask_selS0, ask_selS1, ask_selS2, ask_selS3]
    have hsl := own_slAt ho
    refine a_iadN hP tyT hsl hlt ?_
    refine a_store (vs := encT (ks[k], ps[k])) hX hP szT rfl rfl rfl rfl (one_encT _) ho hw.sz0 (by omega) (by decide) (own_off ho (all1 hb0)) (fun w3 hw3 => own_not_kb hw3 (own_stp ho hw3.stp (own_off ho (all1 hb0))) rfl) fun _ w3 w4 hw3 k4 s4 su o4 => ?_
    rw [ask_succ (by simp only [mx] at *; omega)]
    intro w5 hw5
    refine ⟨⟨k + 1, rfl, hlt, ?_, hw5.kn⟩, by simp [intNat]; omega⟩
    rw [show ks.length - k = (ks.length - (k + 1)) + 1 by omega, lset_flat encT_len _ _ k (by simp; omega), zip_step hlt hps] at o4
    exact own_stp0 o4 hw5.stp
  · obtain rfl : k = ks.length := by omega
    refine hR _ _ _ _ fun w3 hw3 => ⟨fun h => absurd heq h, fun _ => ⟨_, rfl, ⟨g, rfl⟩, ?_⟩⟩
    rw [Nat.sub_self, List.replicate_zero, List.append_nil, List.take_of_length_le (by simp; omega)] at ho
    exact own_mono (own_stp0 ho hw3.stp) hw.sz0
#print axioms keepsZip
end Go.Vc
