/-
  Lists with a mark behind them; terms of two lists.
-/
import Derived.Test.YtpfidanjeacihaaGreatDoorDGen
import Derived.Test.YtpfidanjeacihaaGreatDoorDZip
namespace Go.Vc
open Go Go.Proofs Go.RowKit

/-! ### a list with a mark behind it -/
theorem ok77 : okS 77 := by unfold okS; decide
/-- A list, and the mark 77 behind it. -/
def cMk : Cod (List Nat) := ⟨fun w v l => ∃ g cap, v = .slice (some ⟨g, 0, none⟩) l.length cap ∧ SlAt w (.slice (some ⟨g, 0, none⟩) (l.length + 1) cap) (l.length + 1) ((l ++ [77]).flatMap encS) ∧ ∀ x ∈ l, okS x, fun w v a b ⟨g, cap, e, h, ok⟩ ⟨g', cap', e', h', ok'⟩ => by
  rw [e] at e'
  simp only [Value.slice.injEq, Option.some.injEq, Addr.mk.injEq, and_true] at e'
  obtain ⟨rfl, hl, rfl⟩ := e'
  rw [← hl] at h'
  have hx := (slAt_inj (by rw [flat_len encS_len, flat_len encS_len]; simp [hl]) h h').2
  have := flat_inj encS_len (fun _ _ ha hb h => encS_inj ha hb h) (a ++ [77]) (b ++ [77]) (fun x hx => (List.mem_append.1 hx).elim (ok x) (fun h => by simp at h; subst h; exact ok77)) (fun x hx => (List.mem_append.1 hx).elim (ok' x) (fun h => by simp at h; subst h; exact ok77)) (by simp [hl]) hx
  exact (List.append_inj this hl).1⟩
theorem cMk_stable : cMk.Stable := fun _ _ _ _ hs ⟨g, cap, e, h, ok⟩ => ⟨g, cap, e, h.stp0 hs, ok⟩
theorem slAt_cap {w : World} {a : Option Addr} {n cap m : Nat} {xs : List Value} (h : SlAt w (.slice a n cap) m xs) : m = n ∧ n ≤ cap := by
  rcases h with ⟨hv, rfl, _⟩ | ⟨b, o, cap', hv, hn, _⟩
  · cases hv; exact ⟨rfl, Nat.le_refl _⟩
  · cases hv; exact ⟨rfl, hn.1⟩
theorem mk_list {w : World} {v : Value} {l : List Nat} (h : cMk.rd w v l) : Ls encS okS w v l := by
  obtain ⟨g, cap, rfl, h, ok⟩ := h
  refine ⟨?_, ok⟩
  have hc := (slAt_cap h).2
  have := sub_first (m := [77]) h
  rw [sub_zero] at this
  exact this

def ann5 : Ann := ⟨[], [], 70, [], [], none, [], []⟩
theorem vc5 (X : Ctx) (β : Nat → Nat) (x0 : Value) : (run Tryz.prog ann5 5 [.x (.v 0)] [] [] 2).den X (env0 [x0] X.w0) 2 β 0 (fun _ _ _ => False) = (
  AskO X X.w0 [] [] true (appOp (.const (.slice none 0 0)) (.tmp 4) 22) 22 [(4, x0)] fun x2 w2 =>
  AskO X w2 [] [] false (Go.Op.buildSlice 22 1 #[(0, Go.Operand.tmp 6)]) 22 [(6, (.agg #[(U 77), (U 0), (U 0), (U 0)]))] fun x3 w3 =>
  AskO X w3 [] [] true (appOp (.tmp 5) (.tmp 7) 22) 22 [(5, x2), (7, x3)] fun x4 w4 =>
  Ask (rLen X.P 22 x0) fun x5 =>
  Ask (rSlc X.P 22 x4 none (some x5) none) fun x6 =>
  Ret X w4 [] [] x6) := by kernel_rfl
def cCopied7 : Contract := fnW (Cods.cons cLS Cods.nil) (fun p _ => p.1.length ≤ mx) (fun p w v w' => cMk.rd w' v p.1 ∧ ∃ g, v.ownBlock = some g ∧ w.heap.size ≤ g)
theorem own_form {w : World} {base size n : Nat} {e : TypeId} {v : Value} {xs : List Value} (h : w.ownsRow base e size v n xs) (hn : 0 < n) : ∃ g cap, v = .slice (some ⟨g, 0, none⟩) n cap ∧ base ≤ g := by
  rcases h.2 with ⟨_, h0⟩ | ⟨g, cap, cur, rfl, hb, _⟩
  · omega
  · exact ⟨g, cap, rfl, hb⟩
theorem keepsCopied7 : Keeps1 Tryz.prog GT 5 cCopied7 := by
  refine keepsW (T := T0) (A := ann5) hMix keepT0 hGT (calls_of (by kernel_rfl)) (callsW_of (by kernel_rfl)) fun args ⟨l, _⟩ w0 hrd hpre _ => ?_
  obtain ⟨x, _, rfl, hl, rfl⟩ := hrd
  dsimp only at hl hpre
  refine ⟨[.x (.v 0)], [], [], 2, env0 [x] w0, fun b => b, 0, rfl, rfl, fun X hX => mem_none hX rfl, fun X hP hS hw hX hR => ?_⟩
  subst hw; try dsimp only at hR
  rw [vc5 X]
  replace hl : Ls encS okS X.w0 x l := hl
  refine a_append hX hP tyS (v := .slice none 0 0) (x := x) rfl rfl rfl (by decide) (Nat.le_refl _) (Nat.le_refl _) (World.ownsRow_nil _ _ _ _) (fun w hw => hl.1.stp0 hw.stp) (flat_len encS_len l) (flat_one one_encS l) (fun _ h => by cases h) (fun _ _ _ h => by cases h)
    (by simp only [maxLen, mx] at *; omega) (by simp only [mx] at *; omega) fun v w w' _ _ _ k1 ho _ => ?_
  refine a_push (encS 77).toArray hX hP tyS rfl rfl (by decide) (by decide) (by decide) (by kernel_rfl) rfl (by simp [encS, U, Value.oneCell']) rfl (Nat.le_refl _) k1.size ho (by simp only [maxLen, mx] at *; omega) (by simp only [mx] at *; omega) fun o' w2 k' s2 ho' _ => ?_
  refine a_len hP tyS hl.1 ?_
  simp only [List.nil_append, Nat.zero_add] at ho'
  obtain ⟨g, cap, rfl, hg⟩ := own_form ho' (by omega)
  have hs := own_slAt ho'
  refine a_slcCap hP tyS (hi := l.length) (by have := (slAt_cap hs).2; omega) ?_
  rw [sub_zero]
  refine hR _ _ _ _ fun w3 hw3 => ⟨⟨g, cap, rfl, ?_, hl.2⟩, g, rfl, hg⟩
  rw [List.flatMap_append]
  simpa using hs.stp0 hw3.stp

/-- A load of element i. -/
theorem ld_S {X : Ctx} {u : World} {v : Value} {xs : List Value} {l : List Nat} {n i : Nat} {ow : List Nat} {K : Value → Prop} (hP : X.P = Tryz.prog) (hk : Kn X u) (h : SlAt u v n xs) (hx : xs = l.flatMap encS) (hn : l.length = n) (hi : i < l.length) (how : ∀ b, v.ownBlock = some b → b ∉ ow)
    (hK : K (S l[i])) : Ask (rIad X.P 22 v (J i)) fun p => Ask (rLoad X u ow 25 p) K := by
  subst hx
  refine a_iadN hP tyS h (by omega) ?_
  refine a_load_agg (cs := encS l[i]) hk h (by rw [hP]; exact aggS) (by rw [hP]; exact szS) how (by simp [encS]) (flat_at encS_len l i _ (List.getElem?_eq_getElem hi)) ?_
  exact hK

def ann22 : Ann := ⟨[(3, ([6], []))], [], 70, [], [], none, [], []⟩
theorem vc22 (X : Ctx) (β : Nat → Nat) (x0 x1 : Value) : (run Tryz.prog ann22 22 [.x (.v 0), .x (.v 1)] [] [] 3).den X (env0 [x0, x1] X.w0) 3 β 0 (fun _ _ _ => False) = (
  Ask (rLen X.P 22 x1) fun x3 =>
  Ask (rBin X.P .add 3 false true x3 (J 1)) fun x4 =>
  Ask (rSlc X.P 22 x0 none (some x4) none) fun x5 =>
  ∃ (I0 : List Value → World → Prop) (μ0 : List Value → World → Nat), (∀ w, KnownV X X.w0 [] [] w → I0 [(J 0)] w) ∧ ∀ x6 w7, I0 [x6] w7 →
    Ask (rLen X.P 22 x1) fun x8 =>
    Ask (rBin X.P .lss 3 false false x6 x8) fun x9 =>
    (∃ t, x9 = .bool t) ∧ (x9 = .bool true →
      Ask (rIad X.P 22 x5 x6) fun x10 =>
      Ask (rLoad X w7 [] 25 x10) fun x11 =>
      Ask (rIad X.P 22 x1 x6) fun x12 =>
      Ask (rLoad X w7 [] 25 x12) fun x13 =>
      Ask (rBin X.P .neq 25 false false x11 x13) fun x14 =>
      (∃ t, x14 = .bool t) ∧ (x14 = .bool true →
        Ret X w7 [] [] (.bool false)) ∧ (x14 = .bool false →
        Ask (rBin X.P .add 3 false true x6 (J 1)) fun x15 =>
        Again X w7 [] [] fun w => I0 [x15] w ∧ μ0 [x15] w < μ0 [x6] w7)) ∧ (x9 = .bool false →
      Ask (rLen X.P 22 x1) fun x10 =>
      Ask (rIad X.P 22 x5 x10) fun x11 =>
      Ask (rLoad X w7 [] 25 x11) fun x12 =>
      Ask (rBin X.P .eql 25 false false x12 (.agg #[(U 77), (U 0), (U 0), (U 0)])) fun x13 =>
      Ret X w7 [] [] x13)) := by kernel_rfl
def cUnt : Contract := fnW (Cods.cons cMk (Cods.cons cLS Cods.nil)) (fun p _ => p.1 = p.2.1 ∧ p.1.length ≤ mx) (fun _ _ v _ => v = .bool true)
theorem keepsUnt : Keeps1 Tryz.prog GT 22 cUnt := by
  refine keepsW (T := T0) (A := ann22) hMix keepT0 hGT (calls_of (by kernel_rfl)) (callsW_of (by kernel_rfl)) fun args ⟨l, m, _⟩ w0 hrd hpre _ => ?_
  obtain ⟨c, _, rfl, hc, x, _, rfl, hl, rfl⟩ := hrd
  obtain ⟨e, hpre⟩ := hpre
  dsimp only at hc hl hpre e
  subst e
  obtain ⟨g, cap, rfl, hc, ok⟩ := hc
  refine ⟨[.x (.v 0), .x (.v 1)], [], [], 3, env0 [.slice (some ⟨g, 0, none⟩) l.length cap, x] w0, fun b => b, 0, rfl, rfl, fun X hX => mem_none hX rfl, fun X hP hS hw hX hR => ?_⟩
  subst hw; try dsimp only at hR
  rw [vc22 X]
  replace hl : Ls encS okS X.w0 x l := hl
  have hcap := (slAt_cap hc).2
  refine a_len hP tyS hl.1 ?_
  rw [ask_succ (by simp only [mx] at *; omega)]
  refine a_slcCap hP tyS (hi := l.length + 1) hcap ?_
  rw [sub_zero]
  refine ⟨fun a w => ∃ k, a = [J k] ∧ k ≤ l.length ∧ Kn X w, fun a _ => match a with | [i] => l.length - intNat i | _ => 0, fun w hw => ⟨0, rfl, Nat.zero_le _, hw.kn⟩, ?_⟩
  rintro _ w ⟨k, he, hk, hkn⟩
  simp only [List.cons.injEq, and_true] at he
  subst he
  have hl' := hl.1.stp0 (hkn.stp0 hX)
  have hc' := hc.stp0 (hkn.stp0 hX)
  refine a_len hP tyS hl.1 ?_
  rw [ask_lssN]
  refine a_ifD (fun hlt => ?_) fun hge => ?_
  · refine ld_S hP hkn hc' rfl (by simp) (by simp; omega) (fun _ _ => List.not_mem_nil) ?_
    rw [List.getElem_append_left hlt]
    refine ld_S hP hkn hl' rfl rfl hlt (fun _ _ => List.not_mem_nil) ?_
    have okk := hl.2 _ (List.getElem_mem hlt)
    rw [ask_neqS (hP ▸ a4S) okk okk, decide_eq_true rfl]
    refine a_if (fun h => by cases h) fun _ => ?_
    rw [ask_succ (by simp only [mx] at *; omega)]
    intro w2 hw2
    exact ⟨⟨k + 1, rfl, hlt, hw2.kn⟩, by simp [intNat]; omega⟩
  · obtain rfl : k = l.length := by omega
    refine a_len hP tyS hl.1 ?_
    refine ld_S hP hkn hc' rfl (by simp) (by simp) (fun _ _ => List.not_mem_nil) ?_
    rw [List.getElem_append_right (by omega)]
    simp only [Nat.sub_self, List.getElem_cons_zero]
    have e77 : Value.agg #[U 77, U 0, U 0, U 0] = S 77 := by kernel_rfl
    rw [e77, ask_eqlS (hP ▸ a4S) ok77 ok77]
    exact hR _ _ _ _ fun _ _ => by simp

/-! ### terms -/
def encT (p : Nat × Nat) : List Value := encS p.1 ++ encS p.2
theorem encT_len (p : Nat × Nat) : (encT p).length = 8 := rfl
theorem one_encT (p : Nat × Nat) : (encT p).all (·.oneCell') = true := by simp [encT, encS, U, Value.oneCell']
theorem ld_L {X : Ctx} {u : World} {v : Value} {xs : List Value} {l : List Nat} {n i : Nat} {ow : List Nat} {K : Value → Prop} (hP : X.P = Tryz.prog) (hk : Kn X u) (h : SlAt u v n xs) (hx : xs = l.flatMap encS) (hn : l.length = n) (hi : i < l.length) (how : ∀ b, v.ownBlock = some b → b ∉ ow)
    (hK : K (S l[i])) : Ask (rIad X.P 75 v (J i)) fun p => Ask (rLoad X u ow 67 p) K := by
  subst hx
  refine a_iadN hP tyL h (by omega) ?_
  refine a_load_agg (cs := encS l[i]) hk h (by rw [hP]; exact aggL) (by rw [hP]; exact szL) how (by simp [encS]) (flat_at encS_len l i _ (List.getElem?_eq_getElem hi)) ?_
  exact hK

theorem makeT (n : Nat) : (madeCells (Value.agg #[U 0, U 0, U 0, U 0, U 0, U 0, U 0, U 0]).cells (n * 8)).toList = (List.replicate n ((0, 0) : Nat × Nat)).flatMap encT := made_enc (α := Nat × Nat) (enc := encT) (a := (0, 0)) (s := 8) (by kernel_rfl) rfl (by decide) n

theorem zip_step {ks ps : List Nat} {k : Nat} (h1 : k < ks.length) (h2 : k < ps.length) (m : Nat) : (((ks.zip ps).take k ++ List.replicate (m + 1) (0, 0)).set k (ks[k], ps[k])) = (ks.zip ps).take (k + 1) ++ List.replicate m (0, 0) := by
  have hl : ((ks.zip ps).take k).length = k := by simp; omega
  rw [List.set_append_right _ _ (by omega), hl, Nat.sub_self, List.replicate_succ, List.set_cons_zero, List.take_succ_eq_append_getElem (by simp; omega)]
  simp
end Go.Vc
