/-
  Sums of terms over lists of scalars (msm.Free): Plain, sum, Commit.
-/
import Derived.Test.YtapkkciimlffnaaDoorDGb1
namespace Go.Vc
open Go Go.Proofs Go.RowKit

def enc5 (p : Nat × Value) : List Value := encS p.1 ++ [p.2]
theorem enc5_len (p : Nat × Value) : (enc5 p).length = 5 := rfl
theorem enc5_inj (p q : Nat × Value) (hp : okS p.1) (hq : okS q.1) (h : enc5 p = enc5 q) : p = q := by
  obtain ⟨h1, h2⟩ := List.append_inj h rfl
  exact Prod.ext (encS_inj hp hq h1) (by simpa using h2)
theorem one_enc5 {p : Nat × Value} (h : p.2.oneCell' = true) : (enc5 p).all (·.oneCell') = true := by
  unfold enc5
  rw [List.all_append, one_encS]
  simpa using h
/-- Terms: scalars, and lists that are read each by itself. -/
def TFs (w : World) (v : Value) (ts : List (Nat × List Nat)) : Prop := ∃ ps : List (Nat × Value), SlAt w v ts.length (ps.flatMap enc5) ∧ ps.length = ts.length ∧ ∀ (i : Nat) (p : Nat × Value) (t : Nat × List Nat), ps[i]? = some p → ts[i]? = some t → p.1 = t.1 ∧ okS t.1 ∧ Ls encS okS w p.2 t.2
def cTF : Cod (List (Nat × List Nat)) := ⟨TFs, fun w v a b ⟨ps, h1, h2, h3⟩ ⟨qs, k1, k2, k3⟩ => by
  have hl : a.length = b.length := slAt_len h1 k1
  have okp : ∀ p ∈ ps, okS p.1 := fun p hp => by
    obtain ⟨i, hi⟩ := List.getElem?_of_mem hp
    have hlt : i < a.length := by rw [← h2]; exact (List.getElem?_eq_some_iff.1 hi).1
    have := h3 i p _ hi (List.getElem?_eq_getElem hlt)
    rw [this.1]; exact this.2.1
  have okq : ∀ p ∈ qs, okS p.1 := fun p hp => by
    obtain ⟨i, hi⟩ := List.getElem?_of_mem hp
    have hlt : i < b.length := by rw [← k2]; exact (List.getElem?_eq_some_iff.1 hi).1
    have := k3 i p _ hi (List.getElem?_eq_getElem hlt)
    rw [this.1]; exact this.2.1
  have hpq : ps = qs := flat_inj (ok := fun p : Nat × Value => okS p.1) enc5_len enc5_inj ps qs okp okq (by omega) (slAt_inj (by rw [flat_len enc5_len, flat_len enc5_len]; omega) h1 k1).2
  subst hpq
  refine List.ext_getElem? fun i => ?_
  rcases Nat.lt_or_ge i a.length with hi | hi
  · have hp : ps[i]? = some (ps[i]'(by omega)) := List.getElem?_eq_getElem (by omega)
    have ha : a[i]? = some a[i] := List.getElem?_eq_getElem hi
    have hb : b[i]? = some (b[i]'(by omega)) := List.getElem?_eq_getElem (by omega)
    have e1 := h3 i _ _ hp ha
    have e2 := k3 i _ _ hp hb
    rw [ha, hb]
    exact congrArg some (Prod.ext (e1.1.symm.trans e2.1) (cLS.inj _ _ _ _ e1.2.2 e2.2.2))
  · rw [List.getElem?_eq_none hi, List.getElem?_eq_none (by omega)]⟩
theorem cTF_stable : cTF.Stable := fun _ _ _ _ hs ⟨ps, h1, h2, h3⟩ => ⟨ps, h1.stp0 hs, h2, fun i p t hp ht => let ⟨a, b, c⟩ := h3 i p t hp ht; ⟨a, b, c.stp0 hs⟩⟩
def stepF (o : List Nat) (t : Nat × List Nat) : List Nat := trim (addF o (trim (t.2.map (Fk.mul t.1).op)))
def plainF (ts : List (Nat × List Nat)) : List Nat := ts.foldl stepF []
theorem addF_len (a b : List Nat) {n : Nat} (ha : a.length ≤ n) (hb : b.length ≤ n) : (addF a b).length ≤ n := by
  unfold addF
  split <;> rw [addL_len] <;> assumption
theorem addF_lt (a b : List Nat) : ∀ x ∈ addF a b, x < lN := by
  unfold addF
  split <;> exact addL_lt _ _
theorem mem_trimG {l : List Nat} {x : Nat} (h : x ∈ trim l) : x ∈ l := by rw [← trim_pre] at h; exact List.mem_of_mem_take h
theorem plainF_len {n : Nat} (ts : List (Nat × List Nat)) : (∀ t ∈ ts, t.2.length ≤ n) → ∀ o : List Nat, o.length ≤ n → (ts.foldl stepF o).length ≤ n := by
  induction ts with
  | nil => intro _ o h; exact h
  | cons t r ih =>
    intro ht o h
    refine ih (fun t h => ht t (by simp [h])) _ (Nat.le_trans (trim_len _) (addF_len _ _ h (Nat.le_trans (trim_len _) ?_)))
    rw [List.length_map]
    exact ht t (by simp)
theorem plainF_lt (ts : List (Nat × List Nat)) : ∀ o : List Nat, (∀ x ∈ o, x < lN) → ∀ x ∈ ts.foldl stepF o, x < lN := by
  induction ts with
  | nil => intro o h; exact h
  | cons t r ih => intro o _; exact ih _ fun x hx => addF_lt _ _ x (mem_trimG hx)
/-- A list of the call's own that is such a sum. -/
def TrP (lo : Nat) (w : World) (v : Value) (l : List Nat) : Prop := ∃ x, v = .agg #[x] ∧ w.ownsRow lo 34 4 x l.length (l.flatMap encS)
theorem methFTimes (a k : Value) : Meth Tryd.prog (.iface 47 (.agg #[a])) "Times" [k] 139 [.agg #[a], k] := fun w => by kernel_rfl
theorem methFAdd (a k : Value) : Meth Tryd.prog (.iface 47 (.agg #[a])) "Add" [k] 137 [.agg #[a], k] := fun w => by kernel_rfl
theorem makeIF (x : Value) (w : World) : (Instr.makeInterface 47 x).run Tryd.prog w = .ok (.iface 47 x) w := by kernel_rfl
theorem tyTF : ElTy Tryd.prog 90 89 5 56 (.agg #[U 0, U 0, U 0, U 0, .slice none 0 0]) := ⟨by kernel_rfl, by kernel_rfl⟩
theorem szTF : sz Tryd.prog 89 = some 5 := by kernel_rfl
theorem aggTF : agg? Tryd.prog 89 = some true := by kernel_rfl

def cPlainF : Contract := fnW (Cods.cons cTF Cods.nil) (fun p _ => p.1.length ≤ mx ∧ ∀ t ∈ p.1, t.2.length ≤ mx) (fun p w v w' => TrP w.heap.size w' v (plainF p.1))
def Tgf : Table := (T0.add 139 cFTim).add 137 cFAdd
theorem keepTgf : AllKeep Tryd.prog GT Tgf := (keepT0.add keepsFTim).add keepsFAdd
def ann59 : Ann := ⟨[(3, ([8], [1]))], [], 70, [], [], some false, [], []⟩
def kb59_0 (b0 b1 : Nat) : List KB := [⟨b0, true, 47, #[(.slice none 0 0)]⟩, ⟨b1, true, 47, #[(.slice none 0 0)]⟩]
def kb59_1 (b0 b1 b2 : Nat) (x4 x10 x11 x12 x13 x14 : Value) : List KB := [⟨b0, true, 47, #[(.slice none 0 0)]⟩, ⟨b1, true, 47, #[x4]⟩, ⟨b2, true, 89, #[x10, x11, x12, x13, x14]⟩]
theorem vc59 (X : Ctx) (β : Nat → Nat) (x0 : Value) : (run Tryd.prog ann59 59 [.x (.v 0)] [] [] 2).den X (env0 [x0] X.w0) 2 β 0 (fun _ _ _ => False) = (
  AskNew X.w0 fun b0 =>
  AskNew X.w0 fun b1 =>
  Ask (rLen X.P 90 x0) fun x2 =>
  ∃ (I0 : List Value → World → Prop) (μ0 : List Value → World → Nat), (∀ w, KnownV X X.w0 [] (kb59_0 b0 b1) w → I0 [(J 0), (.slice none 0 0)] w) ∧ ∀ x3 x4 w5, I0 [x3, x4] w5 →
    Ask (rBin X.P .lss 3 false false x3 x2) fun x6 =>
    (∃ t, x6 = .bool t) ∧ (x6 = .bool true →
      Ask (rIad X.P 90 x0 x3) fun x7 =>
      Ask (rLoad X w5 [] 89 x7) fun x8 =>
      AskNew w5 fun b2 =>
      Ask (rAgg 5 x8) fun x9 =>
      Ask (rSel (aggArr x9) 0 1 false) fun x10 =>
      Ask (rSel (aggArr x9) 1 1 false) fun x11 =>
      Ask (rSel (aggArr x9) 2 1 false) fun x12 =>
      Ask (rSel (aggArr x9) 3 1 false) fun x13 =>
      Ask (rSel (aggArr x9) 4 1 false) fun x14 =>
      Ask (rGen X.P (Go.Op.makeInterface 47 (Go.Operand.tmp 12)) 20 [(12, (.agg #[x4]))]) fun x15 =>
      Ask (rGen X.P (Go.Op.makeInterface 47 (Go.Operand.tmp 15)) 20 [(15, (.agg #[x14]))]) fun x16 =>
      AskJ X w5 [b2] (kb59_1 b0 b1 b2 x4 x10 x11 x12 x13 x14) false x16 "Times" [(.agg #[x10, x11, x12, x13])] fun x17 w17 =>
      AskJ X w17 [] (kb59_1 b0 b1 b2 x4 x10 x11 x12 x13 x14) false x15 "Add" [x17] fun x18 w18 =>
      Ask (rAgg 1 x18) fun x19 =>
      Ask (rSel (aggArr x19) 0 1 false) fun x20 =>
      Ask (rBin X.P .add 3 false true x3 (J 1)) fun x21 =>
      Again X w18 [b1] [] fun w => I0 [x21, x20] w ∧ μ0 [x21, x20] w < μ0 [x3, x4] w5) ∧ (x6 = .bool false →
      Ask (rPlain x4) fun x7 =>
      Ret X w5 [b0] [] (.agg #[x7]))) := by kernel_rfl
theorem keepsPlainF : Keeps1 Tryd.prog GT 59 cPlainF := by
  refine keepsW (T := Tgf) (A := ann59) hMix keepTgf hGT (calls_of (by kernel_rfl)) (callsW_of (by kernel_rfl)) fun args ⟨ts, _⟩ w0 hrd hpre hg => ?_
  obtain ⟨x, _, rfl, hl, rfl⟩ := hrd
  dsimp only at hl hpre
  obtain ⟨ps, hsl, hpl, hel⟩ := hl
  simp only [mx] at hpre
  refine ⟨[.x (.v 0)], [], [], 2, env0 [x] w0, fun b => b, 0, rfl, rfl, fun X hX => mem_none hX rfl, fun X hP hS hw hX hR => ?_⟩
  subst hw; try dsimp only at hR
  rw [vc59 X]
  intro b0 hb0 b1 hb1
  refine a_len hP tyTF hsl ?_
  refine ⟨fun a w => ∃ (i : Nat) (o : Value) (B : Nat), a = [J i, o] ∧ i ≤ ts.length ∧ (b0 < B ∧ b1 < B) ∧ X.w0.heap.size ≤ B ∧ Kn X w ∧ w.ownsRow B 34 4 o ((ts.take i).foldl stepF []).length (((ts.take i).foldl stepF []).flatMap encS), fun a _ => match a with | i :: _ => ts.length - intNat i | _ => 0,
    fun w hw => ⟨0, _, w.heap.size, rfl, Nat.zero_le _, ⟨hw.low (by simp [kb59_0]), hw.low (by simp [kb59_0])⟩, hw.sz0, hw.kn, World.ownsRow_nil _ _ _ _⟩, ?_⟩
  rintro _ _ w ⟨i, o, B, he, hi, hB, hB0, hk, ho⟩
  simp only [List.cons.injEq, and_true] at he
  obtain ⟨rfl, rfl⟩ := he
  have hlen : ((ts.take i).foldl stepF []).length ≤ 4194304 := plainF_len _ (fun t ht => hpre.2 t (List.mem_of_mem_take ht)) _ (by simp)
  have hlt' : ∀ z ∈ (ts.take i).foldl stepF [], z < lN := plainF_lt _ _ (fun _ h => by cases h)
  rw [ask_lssN]
  refine a_ifD (fun hlt => ?_) fun hge => ?_
  · have hl' := hsl.stp0 (hk.stp0 hX)
    have hpi : ps[i]? = some (ps[i]'(by omega)) := List.getElem?_eq_getElem (by omega)
    obtain ⟨ek, okk, hls⟩ := hel i _ _ hpi (List.getElem?_eq_getElem hlt)
    have hbt := hpre.2 _ (List.getElem_mem hlt)
    refine a_iadN hP tyTF hl' hlt ?_
    refine a_load_agg (cs := enc5 (ps[i]'(by omega))) hk hl' (by rw [hP]; exact aggTF) (by rw [hP]; exact szTF) (fun _ _ => List.not_mem_nil) (by simp [enc5]) (flat_at enc5_len ps i _ hpi) ?_
    intro b2 hb2
    refine a_agg rfl (one_enc5 (slAt_one hls.1)) ?_
    iterate 5 refine a_sel1 rfl ?_
    rw [foldSg, ek, ask_makeI (by rw [hP]; exact makeIF _), ask_makeI (by rw [hP]; exact makeIF _)]
    refine call_J hP hX hS (methFTimes _ _) (T := Tgf) (f := 139) rfl (ts[i].2, ts[i].1) (fun w2 hw => ⟨⟨_, rfl, hls.stp0 (hw.kn.stp0 hX), okk⟩, hbt⟩) fun v1 w1 w1' h1 k1 s1 su1 hv => ?_
    obtain ⟨y1, rfl, o1⟩ := hv
    dsimp only at o1
    have lo0 : b0 < w1.heap.size := h1.low (by simp [kb59_1])
    have lo1 : b1 < w1.heap.size := h1.low (by simp [kb59_1])
    have ho1 := own_stp ho su1 (own_off ho (all1 hb2))
    refine call_J hP hX hS (methFAdd _ _) (T := Tgf) (f := 137) rfl ((ts.take i).foldl stepF [], trim (ts[i].2.map (Fk.mul ts[i].1).op)) (fun w2 hw => ⟨⟨_, _, rfl, ⟨(own_slAt ho1).stp0 hw.stp, fun z hz => Nat.lt_trans (hlt' z hz) (by decide)⟩, ⟨(own_slAt o1).stp0 hw.stp, fun z hz => ?_⟩⟩, hlen, ?_⟩) fun v2 w2 w2' h2 k2 s2 su2 hv => ?_
    · obtain ⟨q, _, rfl⟩ := List.mem_map.1 (mem_trimG hz)
      exact Nat.lt_trans (Fk.lt _ _) (by decide)
    · exact Nat.le_trans (trim_len _) (by rw [List.length_map]; exact hbt)
    obtain ⟨y2, rfl, o2⟩ := hv
    dsimp only at o2
    have z1 := s1.size
    have z2 := h2.size
    refine a_agg (cs := [y2]) rfl (by simp [own_one o2]) (a_sel1 rfl ?_)
    rw [ask_succ (by omega)]
    intro w3 hw3
    refine ⟨⟨i + 1, y2, w2.heap.size, rfl, hlt, ⟨by omega, by omega⟩, h2.sz0, hw3.kn, ?_⟩, by simp [intNat]; omega⟩
    rw [foldl_take _ _ _ _ hlt]
    exact own_stp o2 hw3.stp (off_own o2 (all1 (by omega)))
  · obtain rfl : i = ts.length := by omega
    rw [List.take_length] at ho
    refine a_plain (own_one ho) ?_
    exact hR _ _ _ _ fun w2 hw2 => ⟨_, rfl, own_mono (own_stp ho hw2.stp (off_own ho (all1 hB.1))) hB0⟩
#print axioms keepsPlainF

/-! ### sum -/
def cSumF : Contract := fnW (Cods.cons cTF Cods.nil) (fun p _ => p.1.length < 24 ∧ ∀ t ∈ p.1, t.2.length ≤ mx) (fun p w v w' => TrP w.heap.size w' v (plainF p.1))
def Tgg : Table := T0.add 59 cPlainF
theorem keepTgg : AllKeep Tryd.prog GT Tgg := keepT0.add keepsPlainF
def ann44 : Ann := ⟨[], [], 70, [(59, false), (60, false)], [], none, [], []⟩
def kb44_0 (b0 : Nat) : List KB := [⟨b0, true, 47, #[(.slice none 0 0)]⟩]
theorem vc44 (X : Ctx) (β : Nat → Nat) (x0 : Value) : (run Tryd.prog ann44 44 [.x (.v 0)] [] [] 2).den X (env0 [x0] X.w0) 2 β 0 (fun _ _ _ => False) = (
  AskNew X.w0 fun b0 =>
  Ask (rLen X.P 90 x0) fun x2 =>
  Ask (rBin X.P .lss 3 false true x2 (J 24)) fun x3 =>
  (∃ t, x3 = .bool t) ∧ (x3 = .bool true →
    AskW X X.w0 [] (kb44_0 b0) false 59 [x0] fun x4 w4 =>
    Ask (rAgg 1 x4) fun x5 =>
    Ask (rSel (aggArr x5) 0 1 false) fun x6 =>
    Ret X w4 [b0] [] (.agg #[x6])) ∧ (x3 = .bool false →
    AskW X X.w0 [] (kb44_0 b0) false 60 [x0] fun x4 w4 =>
    Ask (rExt X.P x4 0) fun x5 =>
    Ask (rExt X.P x4 1) fun x6 =>
    AskNew w4 fun b1 =>
    AskNew w4 fun b2 =>
    Ask (rAgg 1 x5) fun x7 =>
    Ask (rSel (aggArr x7) 0 1 false) fun x8 =>
    Ask (rAgg 2 x6) fun x9 =>
    Ask (rSel (aggArr x9) 0 1 false) fun _ =>
    Ask (rSel (aggArr x9) 1 1 false) fun _ =>
    Ask (rPlain x8) fun x12 =>
    Ret X w4 [b0, b2, b1] [] (.agg #[x12]))) := by kernel_rfl
theorem keepsSumF : Keeps1 Tryd.prog GT 44 cSumF := by
  refine keepsW (T := Tgg) (A := ann44) hMix keepTgg hGT (calls_of (by kernel_rfl)) (callsW_of (by kernel_rfl)) fun args ⟨ts, _⟩ w0 hrd hpre hg => ?_
  obtain ⟨x, _, rfl, hl, rfl⟩ := hrd
  dsimp only at hl hpre
  refine ⟨[.x (.v 0)], [], [], 2, env0 [x] w0, fun b => b, 0, rfl, rfl, fun X hX => mem_none hX rfl, fun X hP hS hw hX hR => ?_⟩
  subst hw; try dsimp only at hR
  rw [vc44 X]
  intro b0 hb0
  have hsl := hl
  obtain ⟨ps, hsl, _⟩ := hsl
  refine a_len hP tyTF hsl ?_
  rw [ask_lssN]
  refine a_ifD (fun hlt => ?_) fun hge => absurd hpre.1 hge
  refine call_W hX hS (T := Tgg) (f := 59) rfl (ts, ()) (fun w hw => ⟨⟨_, _, rfl, cTF_stable _ _ _ _ (hw.kn.stp0 hX) hl, rfl⟩, by simp only [mx]; omega, hpre.2⟩) fun v w w' h k s su hv => ?_
  obtain ⟨y, rfl, o⟩ := hv
  dsimp only at o
  have lo := h.low (b := b0) (by simp [kb44_0])
  refine a_agg (cs := [y]) rfl (by simp [own_one o]) (a_sel1 rfl ?_)
  exact hR _ _ _ _ fun w2 hw2 => ⟨_, rfl, own_mono (own_stp o hw2.stp (off_own o (all1 lo))) h.sz0⟩

/-! ### Commit -/
/-- A set of which the base and the blinding's base are read. -/
def cCmF : Cods (List Nat × List Nat × Nat × Nat) := ⟨fun w l p => ∃ x y z g h, l = [.agg #[x, y, z, g, h], S p.2.2.1, S p.2.2.2] ∧ (z.oneCell' = true ∧ g.oneCell' = true ∧ h.oneCell' = true) ∧ cLS.rd w x p.1 ∧ cLS.rd w y p.2.1 ∧ okS p.2.2.1 ∧ okS p.2.2.2, fun w l ⟨a, b, c, d⟩ ⟨a', b', c', d'⟩ ⟨x, y, z, g, h, e, _, h1, h2, h3, h4⟩ ⟨x', y', z', g', h', e', _, k1, k2, k3, k4⟩ => by
  dsimp only at e h1 h2 h3 h4 e' k1 k2 k3 k4
  rw [e] at e'
  simp only [List.cons.injEq, Value.agg.injEq, and_true] at e'
  obtain ⟨e1, e2, e3⟩ := e'
  have e1 := congrArg Array.toList e1
  simp only [List.cons.injEq, and_true] at e1
  obtain ⟨rfl, rfl, _⟩ := e1
  rw [cLS.inj _ _ _ _ h1 k1, cLS.inj _ _ _ _ h2 k2, S_inj h3 k3 e2, S_inj h4 k4 e3]⟩
def cCommitF : Contract := fnW cCmF (fun p _ => p.1.length ≤ mx ∧ p.2.1.length ≤ mx) (fun p w v w' => TrP w.heap.size w' v (plainF [(p.2.2.1, p.1), (p.2.2.2, p.2.1)]))
def Tgm : Table := T0.add 44 cSumF
theorem keepTgm : AllKeep Tryd.prog GT Tgm := keepT0.add keepsSumF
def ann24 : Ann := ⟨[], [], 70, [(44, false)], [4, 5], none, [], []⟩
def kb24_0 (b0 b1 b2 b3 : Nat) (x5 x6 x7 x8 x9 x10 x11 : Value) : List KB := [⟨b0, true, 50, #[x5, x6, x7, x8, x9]⟩, ⟨b1, true, 34, (aggArr x10)⟩, ⟨b2, true, 34, (aggArr x11)⟩, ⟨b3, true, 47, #[(.slice none 0 0)]⟩]
theorem vc24 (X : Ctx) (β : Nat → Nat) (x0 x1 x2 : Value) : (run Tryd.prog ann24 24 [.x (.v 0), .x (.v 1), .x (.v 2)] [] [] 4).den X (env0 [x0, x1, x2] X.w0) 4 β 0 (fun _ _ _ => False) = (
  Ask (rAgg 5 x0) fun x4 =>
  Ask (rSel (aggArr x4) 0 1 false) fun x5 =>
  Ask (rSel (aggArr x4) 1 1 false) fun x6 =>
  Ask (rSel (aggArr x4) 2 1 false) fun x7 =>
  Ask (rSel (aggArr x4) 3 1 false) fun x8 =>
  Ask (rSel (aggArr x4) 4 1 false) fun x9 =>
  AskNew X.w0 fun b0 =>
  Ask (rAgg 4 x1) fun x10 =>
  AskNew X.w0 fun b1 =>
  Ask (rAgg 4 x2) fun x11 =>
  AskNew X.w0 fun b2 =>
  AskNew X.w0 fun b3 =>
  Ask (rAgg 4 x10) fun x12 =>
  Ask (rSel (aggArr x12) 0 1 false) fun x13 =>
  Ask (rSel (aggArr x12) 1 1 false) fun x14 =>
  Ask (rSel (aggArr x12) 2 1 false) fun x15 =>
  Ask (rSel (aggArr x12) 3 1 false) fun x16 =>
  Ask (rAgg 4 x11) fun x17 =>
  Ask (rSel (aggArr x17) 0 1 false) fun x18 =>
  Ask (rSel (aggArr x17) 1 1 false) fun x19 =>
  Ask (rSel (aggArr x17) 2 1 false) fun x20 =>
  Ask (rSel (aggArr x17) 3 1 false) fun x21 =>
  AskO X X.w0 [] (kb24_0 b0 b1 b2 b3 x5 x6 x7 x8 x9 x10 x11) false (Go.Op.buildSlice 90 2 #[(0, Go.Operand.tmp 10), (1, Go.Operand.tmp 14)]) 90 [(10, (.agg #[x13, x14, x15, x16, x5])), (14, (.agg #[x18, x19, x20, x21, x6]))] fun x22 w22 =>
  AskW X w22 [] (kb24_0 b0 b1 b2 b3 x5 x6 x7 x8 x9 x10 x11) false 44 [x22] fun x23 w23 =>
  Ask (rAgg 1 x23) fun x24 =>
  Ask (rSel (aggArr x24) 0 1 false) fun x25 =>
  Ret X w23 [b3] [] (.agg #[x25])) := by kernel_rfl
theorem keepsCommitF : Keeps1 Tryd.prog GT 24 cCommitF := by
  refine keepsW (T := Tgm) (A := ann24) hMix keepTgm hGT (calls_of (by kernel_rfl)) (callsW_of (by kernel_rfl)) fun args ⟨la, lb', c, d⟩ w0 hrd hpre hg => ?_
  obtain ⟨x, y, z, g, h, rfl, ⟨oz, og, oh⟩, ha, hb, hc, hd⟩ := hrd
  dsimp only at ha hb hc hd hpre
  replace ha : Ls encS okS w0 x la := ha
  replace hb : Ls encS okS w0 y lb' := hb
  refine ⟨[.x (.v 0), .x (.v 1), .x (.v 2)], [], [], 4, env0 [.agg #[x, y, z, g, h], S c, S d] w0, fun b => b, 0, rfl, rfl, fun X hX => mem_none hX rfl, fun X hP hS hw hX hR => ?_⟩
  subst hw; try dsimp only at hR
  rw [vc24 X]
  refine a_agg (cs := [x, y, z, g, h]) rfl (by simp [slAt_one ha.1, slAt_one hb.1, oz, og, oh]) ?_
  iterate 5 refine a_sel1 rfl ?_
  intro b0 hb0
  rw [ask_aggS]; intro b1 hb1
  rw [ask_aggS]; intro b2 hb2 b3 hb3
  rw [ask_aggS, ask_selS0, ask_selS1, ask_selS2, ask_selS3, ask_aggS, ask_selS0, ask_selS1, ask_selS2, ask_selS3]
  refine a_build ([(c, x), (d, y)].flatMap enc5).toArray hX hP tyTF (by decide) (by decide) (by kernel_rfl) rfl (by decide) fun q w w' hw k s su o => ?_
  refine call_W hX hS (T := Tgm) (f := 44) rfl ([(c, la), (d, lb')], ()) (fun w2 hw2 => ⟨⟨_, _, rfl, ⟨[(c, x), (d, y)], (own_slAt o).stp0 hw2.stp, rfl, fun i p t hp ht => ?_⟩, rfl⟩, by simp, fun t ht => ?_⟩) fun v w2 w2' h2 k2 s2 su2 hv => ?_
  · match i, hp, ht with
    | 0, hp, ht => simp at hp ht; subst hp ht; exact ⟨rfl, hc, ha.stp0 (hw2.kn.stp0 hX)⟩
    | 1, hp, ht => simp at hp ht; subst hp ht; exact ⟨rfl, hd, hb.stp0 (hw2.kn.stp0 hX)⟩
    | i + 2, hp, ht => simp at hp
  · simp only [List.mem_cons, List.not_mem_nil, or_false] at ht
    rcases ht with rfl | rfl
    · exact hpre.1
    · exact hpre.2
  obtain ⟨y', rfl, o'⟩ := hv
  dsimp only at o'
  have lo := h2.low (b := b3) (by simp [kb24_0])
  refine a_agg (cs := [y']) rfl (by simp [own_one o']) (a_sel1 rfl ?_)
  exact hR _ _ _ _ fun w3 hw3 => ⟨_, rfl, own_mono (own_stp o' hw3.stp (off_own o' (all1 lo))) h2.sz0⟩
#print axioms keepsCommitF

/-! ### at -/
def cAtR : Cods (List Nat × Nat) := ⟨fun w l p => ∃ x, l = [x, J p.2] ∧ cLS.rd w x p.1, fun w l ⟨a, k⟩ ⟨a', k'⟩ ⟨x, e, h⟩ ⟨x', e', h'⟩ => by
  dsimp only at e h e' h'
  rw [e] at e'
  simp only [List.cons.injEq, and_true] at e'
  obtain ⟨rfl, e2⟩ := e'
  rw [cLS.inj _ _ _ _ h h', J_inj e2]⟩
def cAt9 : Contract := fnW cAtR (fun _ _ => True) (fun p _ v _ => v = S (p.1.getD p.2 0))
def ann27 : Ann := ⟨[], [], 70, [], [4], none, [], []⟩
theorem vc27 (X : Ctx) (β : Nat → Nat) (x0 x1 : Value) : (run Tryd.prog ann27 27 [.x (.v 0), .x (.v 1)] [] [] 3).den X (env0 [x0, x1] X.w0) 3 β 0 (fun _ _ _ => False) = (
  Ask (rAgg 4 (.agg #[(U 0), (U 0), (U 0), (U 0)])) fun _ =>
  AskNew X.w0 fun b0 =>
  Ask (rLen X.P 25 x0) fun x4 =>
  Ask (rBin X.P .lss 3 false false x1 x4) fun x5 =>
  (∃ t, x5 = .bool t) ∧ (x5 = .bool true →
    Ask (rIad X.P 25 x0 x1) fun x6 =>
    Ask (rLoad X X.w0 [] 34 x6) fun x7 =>
    Ask (rAgg 4 x7) fun x8 =>
    Ret X X.w0 [b0] [] x8) ∧ (x5 = .bool false →
    Ask (rAgg 4 (.agg #[(U 0), (U 0), (U 0), (U 0)])) fun x6 =>
    Ret X X.w0 [b0] [] x6)) := by kernel_rfl
theorem keepsAt9 : Keeps1 Tryd.prog GT 27 cAt9 := by
  refine keepsW (T := T0) (A := ann27) hMix keepT0 hGT (calls_of (by kernel_rfl)) (callsW_of (by kernel_rfl)) fun args ⟨l, i⟩ w0 hrd hpre hg => ?_
  obtain ⟨x, rfl, hl⟩ := hrd
  dsimp only at hl
  replace hl : Ls encS okS w0 x l := hl
  refine ⟨[.x (.v 0), .x (.v 1)], [], [], 3, env0 [x, J i] w0, fun b => b, 0, rfl, rfl, fun X hX => mem_none hX rfl, fun X hP hS hw hX hR => ?_⟩
  subst hw; try dsimp only at hR
  rw [vc27 X]
  rw [ask_zero4]; intro b0 hb0
  refine a_len hP tyS' hl.1 ?_
  rw [ask_lssN]
  refine a_ifD (fun hlt => ?_) fun hge => ?_
  · refine a_iadN hP tyS' hl.1 hlt ?_
    refine a_load_agg (cs := encS l[i]) (kn0 X) hl.1 (hP ▸ aggS) (by rw [hP]; exact szS) (fun _ _ => List.not_mem_nil) (by simp [encS]) (flat_at encS_len l i _ (List.getElem?_eq_getElem hlt)) ?_
    rw [agg_encS, ask_aggS]
    exact hR _ _ _ _ fun _ _ => by rw [List.getD_eq_getElem?_getD, List.getElem?_eq_getElem hlt]; rfl
  · rw [ask_zero4]
    exact hR _ _ _ _ fun _ _ => by rw [List.getD_eq_getElem?_getD, List.getElem?_eq_none (by omega)]; rfl
end Go.Vc
