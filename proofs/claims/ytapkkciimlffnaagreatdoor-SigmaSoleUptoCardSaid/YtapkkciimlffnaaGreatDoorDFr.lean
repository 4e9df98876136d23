/-
  Lists over the scalars (msm.Free), on the program's side.
-/
import Derived.Test.YtapkkciimlffnaaGreatDoorDBas3
import Derived.Test.YtapkkciimlffnaaGreatDoorDSha9
namespace Go.Vc
open Go Go.Proofs Go.RowKit

/-! ### parts of lists -/
theorem slAt_pre {w : World} {a : Addr} {n cap k : Nat} {xs ys : List Value} (h : SlAt w (.slice (some a) n cap) n xs) (hk : k ≤ n) (hy : ∀ (i : Nat) (x : Value), ys[i]? = some x → xs[i]? = some x) : SlAt w (.slice (some a) k cap) k ys := by
  rcases h with ⟨hv, _⟩ | ⟨b, o, c, hv, hn, hc⟩
  · cases hv
  · cases hv
    exact .inr ⟨b, o, cap, rfl, ⟨by omega, hn.2⟩, fun i x hx => hc i x (hy i x hx)⟩
theorem own_pre {w : World} {base e s n cap g k : Nat} {xs : List Value} (h : w.ownsRow base e s (.slice (some ⟨g, 0, none⟩) n cap) n xs) (hk : k ≤ n) : w.ownsRow base e s (.slice (some ⟨g, 0, none⟩) k cap) k (xs.take (k * s)) := by
  rcases h.2 with ⟨hv, _⟩ | ⟨g', cap', cur, hv, hbg, hg, hnc, hcm, hcs, htake⟩
  · cases hv
  · cases hv
    have hks : k * s ≤ n * s := Nat.mul_le_mul_right _ hk
    refine ⟨by rw [List.length_take, h.1]; omega, .inr ⟨g, cap, cur, rfl, hbg, hg, by omega, hcm, hcs, ?_⟩⟩
    rw [← htake, List.take_take, Nat.min_eq_left hks]
theorem flat_take4 : ∀ (l : List Nat) (k : Nat), (l.flatMap encS).take (k * 4) = (l.take k).flatMap encS
  | [], k => by simp
  | a :: r, 0 => by simp
  | a :: r, k + 1 => by
    rw [List.flatMap_cons, List.take_succ_cons, List.flatMap_cons, show (k + 1) * 4 = (encS a).length + k * 4 by rw [encS_len]; omega, List.take_length_add_append, flat_take4 r k]
theorem trim_len (l : List Nat) : (trim l).length ≤ l.length := by
  unfold trim
  rw [List.length_reverse]
  exact Nat.le_trans (List.dropWhile_sublist _).length_le (by simp)
theorem trim_pre (l : List Nat) : l.take (trim l).length = trim l := by
  have : trim l <+: l := by
    unfold trim
    have := List.reverse_prefix.2 (List.dropWhile_suffix (· == 0) (l := l.reverse))
    rwa [List.reverse_reverse] at this
  exact (List.prefix_iff_eq_take.1 this).symm

def lenV' : Value → Nat | .slice _ n _ => n | _ => 0
/-! ### trimmed -/
def ann182 : Ann := ⟨[(1, ([0], []))], [22], 70, [], [], none, [], []⟩
def kb182_0 (b0 : Nat) : List KB := [⟨b0, true, 32, #[(.slice none 0 0)]⟩]
theorem vc182 (X : Ctx) (β : Nat → Nat) (x0 : Value) : (run Tryz.prog ann182 182 [.x (.v 0)] [] [] 2).den X (env0 [x0] X.w0) 2 β 0 (fun _ _ _ => False) = (
  AskNew X.w0 fun b0 =>
  ∃ (I0 : List Value → World → Prop) (μ0 : List Value → World → Nat), (∀ w, KnownV X X.w0 [] (kb182_0 b0) w → I0 [x0] w) ∧ ∀ x2 w3, I0 [x2] w3 →
    Ask (rLen X.P 22 x2) fun x4 =>
    Ask (rBin X.P .gtr 3 false true x4 (J 0)) fun x5 =>
    AskG [(x5, true)] (rLen X.P 22 x2) fun x6 =>
    AskG [(x5, true)] (rBin X.P .sub 3 false true x6 (J 1)) fun x7 =>
    AskG [(x5, true)] (rIad X.P 22 x2 x7) fun x8 =>
    AskG [(x5, true)] (rLoad X w3 [] 25 x8) fun x9 =>
    AskGF X [(x5, true)] 22 [x9] fun x10 =>
    Ask (rPick x5 x10 (.bool false)) fun x11 =>
    (∃ t, x11 = .bool t) ∧ (x11 = .bool true →
      Ask (rLen X.P 22 x2) fun x12 =>
      Ask (rBin X.P .sub 3 false true x12 (J 1)) fun x13 =>
      Ask (rSlc X.P 22 x2 none (some x13) none) fun x14 =>
      Again X w3 [] [] fun w => I0 [x14] w ∧ μ0 [x14] w < μ0 [x2] w3) ∧ (x11 = .bool false →
      Ask (rLen X.P 22 x2) fun x12 =>
      Ask (rBin X.P .eql 3 false true x12 (J 0)) fun x13 =>
      (∃ t, x13 = .bool t) ∧ (x13 = .bool true →
        Ret X w3 [b0] [] (.agg #[(.slice none 0 0)])) ∧ (x13 = .bool false →
        Ask (rPlain x2) fun x14 =>
        Ask (rPlain x14) fun x15 =>
        Ret X w3 [b0] [] (.agg #[x15])))) := by kernel_rfl
def cTrm : Cods (Nat × Nat × List Nat) := ⟨fun w l p => l = [.slice (some ⟨p.1, 0, none⟩) p.2.2.length p.2.1] ∧ SlAt w (.slice (some ⟨p.1, 0, none⟩) p.2.2.length p.2.1) p.2.2.length (p.2.2.flatMap encS) ∧ ∀ x ∈ p.2.2, okS x, fun w l ⟨g, c, a⟩ ⟨g', c', a'⟩ ⟨e, h, o⟩ ⟨e', h', o'⟩ => by
  dsimp only at e h o e' h' o'
  rw [e] at e'
  simp only [List.cons.injEq, Value.slice.injEq, Option.some.injEq, Addr.mk.injEq, and_true] at e'
  obtain ⟨rfl, e2, rfl⟩ := e'
  have := cLS.inj w _ a a' ⟨h, o⟩ ⟨by rw [e2]; exact h', o'⟩
  rw [this]⟩
def trV (g cap : Nat) (l : List Nat) : Value := if l.length = 0 then .slice none 0 0 else .slice (some ⟨g, 0, none⟩) l.length cap
def cTrimmed : Contract := fnW cTrm (fun p _ => ∀ x ∈ p.2.2, x < lN) (fun p _ v _ => v = .agg #[trV p.1 p.2.1 (trim p.2.2)])
theorem trim_take0 {l : List Nat} (h : trim (l.take 0) = trim l) : trim l = [] := by rw [← h]; simp [trim]
theorem own_tr {w : World} {base g cap : Nat} {l : List Nat} (h : w.ownsRow base 25 4 (.slice (some ⟨g, 0, none⟩) l.length cap) l.length (l.flatMap encS)) : w.ownsRow base 25 4 (trV g cap (trim l)) (trim l).length ((trim l).flatMap encS) := by
  unfold trV
  split
  · rename_i h0
    rw [List.eq_nil_of_length_eq_zero h0]
    exact World.ownsRow_nil _ _ _ _
  · have := own_pre h (trim_len l)
    rwa [flat_take4, trim_pre] at this
def ann22 : Ann := ⟨[], [33], 70, [], [1], none, [], []⟩
theorem vc22 (X : Ctx) (β : Nat → Nat) (x0 : Value) : (run Tryz.prog ann22 22 [.x (.v 0)] [] [] 2).den X (env0 [x0] X.w0) 2 β 0 (fun _ _ _ => False) = (
  Ask (rAgg 4 x0) fun x2 =>
  AskNew X.w0 fun _ =>
  AskF X 33 [x2] fun x3 =>
  Ask (rBin X.P .eql 25 false false x3 (.agg #[(U 0), (U 0), (U 0), (U 0)])) fun x4 =>
  Ret X X.w0 [] [] x4) := by kernel_rfl
def cIsZ : Contract := fnP enc1 (· < W256) (fun n v => v = .bool (decide (n % lN = 0)))
def Tiz : Table := T0.add 33 cLeastS
theorem keepTiz : AllKeep Tryz.prog GT Tiz := keepT0.add keepsLeast
theorem keepsIsZ : Keeps1 Tryz.prog GT 22 cIsZ := by
  refine keepsP (T := Tiz) (A := ann22) inj1 hMix keepTiz hGT (calls_of (by kernel_rfl)) (callsW_of (by kernel_rfl)) fun n w0 hn _ => ⟨[.x (.v 0)], [], [], 2, env0 [S n] w0, fun b => b, 0, rfl, rfl, fun X hX => mem_none hX rfl, fun X hP hS hw hX hR => ?_⟩
  subst hw
  rw [vc22 X]
  rw [ask_aggS]; intro _ _
  refine call_PE hS (T := Tiz) (f := 33) rfl n hn ?_
  rw [show Value.agg #[U 0, U 0, U 0, U 0] = S 0 from rfl, ask_eqlS (hP ▸ a4S) (lm_lt n) (by decide)]
  exact hR _ _ _ _ rfl
def Ttm : Table := T0.add 22 cIsZ
theorem keepTtm : AllKeep Tryz.prog GT Ttm := keepT0.add keepsIsZ
theorem tyS' : ElTy Tryz.prog 22 25 4 32 (.agg #[U 0, U 0, U 0, U 0]) := ⟨by kernel_rfl, by kernel_rfl⟩
theorem keepsTrimmed : Keeps1 Tryz.prog GT 182 cTrimmed := by
  refine keepsW (T := Ttm) (A := ann182) hMix keepTtm hGT (calls_of (by kernel_rfl)) (callsW_of (by kernel_rfl)) fun args ⟨g, cap, l⟩ w0 hrd hpre hg => ?_
  obtain ⟨rfl, hsl, hok⟩ := hrd
  dsimp only at hsl hok hpre
  refine ⟨[.x (.v 0)], [], [], 2, env0 [.slice (some ⟨g, 0, none⟩) l.length cap] w0, fun b => b, 0, rfl, rfl, fun X hX => mem_none hX rfl, fun X hP hS hw hX hR => ?_⟩
  subst hw; try dsimp only at hR
  rw [vc182 X]
  intro b0 hb0
  have hmx := slAt_bd hsl
  refine ⟨fun a w => ∃ k, a = [.slice (some ⟨g, 0, none⟩) k cap] ∧ k ≤ l.length ∧ trim (l.take k) = trim l ∧ Kn X w, fun a _ => match a with | [v] => lenV' v | _ => 0, fun w hw => ⟨l.length, rfl, Nat.le_refl _, by rw [List.take_length], hw.kn⟩, ?_⟩
  rintro _ w3 ⟨k, he, hk, ht, k3⟩
  simp only [List.cons.injEq, and_true] at he
  subst he
  have hsk : SlAt w3 (.slice (some ⟨g, 0, none⟩) k cap) k ((l.take k).flatMap encS) := slAt_pre (hsl.stp0 (k3.stp0 hX)) hk fun i x hi => by
    rw [← flat_take4, List.getElem?_take] at hi
    split at hi
    · exact hi
    · cases hi
  refine a_lenV hP tyS' ?_
  rw [ask_gtrN]
  rcases Nat.eq_zero_or_pos k with rfl | hk0
  · rw [show decide (0 < 0) = false from rfl]
    have off : ¬ condsV [(Value.bool false, true)] := by simp [condsV]
    refine a_G_off off fun _ => a_G_off off fun _ => a_G_off off fun _ => a_G_off off fun _ => a_GF_off off fun _ => ?_
    rw [ask_pickF]
    refine a_if (fun h => by cases h) fun _ => ?_
    refine a_lenV hP tyS' ?_
    rw [ask_eqlN]
    refine a_ifD (fun _ => ?_) fun h => absurd rfl h
    refine hR _ _ _ _ fun w hw => ?_
    rw [trim_take0 ht]
    rfl
  · rw [decide_eq_true hk0]
    have on : condsV [(Value.bool true, true)] := by simp [condsV]
    have hlt : k - 1 < l.length := by omega
    have hlk : (l.take k).length = k := by rw [List.length_take]; omega
    refine a_G_on on (a_lenV hP tyS' ?_)
    refine a_G_on on ?_
    rw [ask_subN (by omega) (by omega)]
    refine a_G_on on (a_iadN hP tyS' hsk (by omega) ?_)
    refine a_G_on on (a_load_agg (cs := encS l[k - 1]) k3 hsk (hP ▸ aggS) (by rw [hP]; exact szS) (fun _ _ => List.not_mem_nil) (by simp [encS]) (flat_at encS_len (l.take k) (k - 1) _ (by rw [List.getElem?_take, if_pos (by omega), List.getElem?_eq_getElem hlt])) ?_)
    have hel := hpre l[k - 1] (List.getElem_mem hlt)
    refine a_GF_on on (call_PE hS (T := Ttm) (f := 22) rfl l[k - 1] (Nat.lt_trans hel (by decide)) ?_)
    rw [ask_pickT, Nat.mod_eq_of_lt hel]
    have ek : l.take (k - 1 + 1) = l.take k := by rw [show k - 1 + 1 = k by omega]
    refine a_ifD (fun h0 => ?_) fun h0 => ?_
    · refine a_lenV hP tyS' ?_
      rw [ask_subN (by omega) (by omega)]
      refine a_slcH hP tyS' hsk (by omega) ?_
      rw [sub_zero]
      intro w4 hw4
      refine ⟨⟨k - 1, rfl, by omega, ?_, hw4.kn⟩, by simp [lenV']; omega⟩
      rw [← trim_step hlt h0, ek, ht]
    · refine a_lenV hP tyS' ?_
      rw [ask_eqlN]
      refine a_ifD (fun h => absurd h (by omega)) fun _ => ?_
      refine a_plain rfl (a_plain rfl ?_)
      refine hR _ _ _ _ fun w hw => ?_
      have ht2 := trim_last hlt h0
      rw [ek, ht] at ht2
      unfold trV
      rw [ht2, hlk, if_neg (by omega)]

/-! ### each -/
inductive Fk where
  | least
  | neg
  | dbl
  | mul (k : Nat)
def Fk.val : Fk → Value
  | .least => .func (.func 33) #[] #[]
  | .neg => .func (.func 50) #[] #[]
  | .dbl => .func (.func 184) #[] #[]
  | .mul k => .func (.func 49) #[S k] #[]
def Fk.ok : Fk → Prop
  | .mul k => okS k
  | _ => True
def Fk.op : Fk → Nat → Nat
  | .least, n => n % lN
  | .neg, n => subL 0 (n % lN)
  | .dbl, n => (n + n) % lN
  | .mul k, n => k * n % lN
theorem Fk.lt (f : Fk) (n : Nat) : f.op n < lN := by
  cases f with
  | neg => exact subL_lt (by decide)
  | _ => exact Nat.mod_lt _ (by decide)
theorem Fk.inj {f h : Fk} (o : f.ok) (o' : h.ok) (e : f.val = h.val) : f = h := by
  cases f <;> cases h <;> first | rfl | (exfalso; simp [Fk.val] at e; done) | skip
  simp only [Fk.val, Value.func.injEq, true_and, and_true] at e
  have := congrArg Array.toList e
  simp only [List.cons.injEq, and_true] at this
  rw [S_inj o o' this]
def cEa : Cods (Fk × List Nat) := ⟨fun w l p => ∃ x, l = [.agg #[x], p.1.val] ∧ cLS.rd w x p.2 ∧ p.1.ok, fun w l ⟨f, a⟩ ⟨f', a'⟩ ⟨x, e, h, o⟩ ⟨x', e', h', o'⟩ => by
  dsimp only at e h o e' h' o'
  rw [e] at e'
  simp only [List.cons.injEq, Value.agg.injEq, and_true] at e'
  have e1 := congrArg Array.toList e'.1
  simp only [List.cons.injEq, and_true] at e1
  subst e1
  rw [Fk.inj o o' e'.2, cLS.inj _ _ _ _ h h']⟩
end Go.Vc
