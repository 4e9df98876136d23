/-
  Sums of terms over lists of scalars (msm.Free): Plain, sum, Commit.
-/
import Derived.Test.YtapkkciimlffnaaGreatDoorDGb1
namespace Go.Vc
open Go Go.Proofs Go.RowKit

def enc5 (p : Nat × Value) : List Value := encS p.1 ++ [p.2]
theorem enc5_len (p : Nat × Value) : (enc5 p).length = 5 := rfl
theorem enc5_inj (p q : Nat × Value) (hp : okS p.1) (hq : okS q.1) (h : enc5 p = enc5 q) : p = q := by
  obtain ⟨h1, h2⟩ := List.append_inj h rfl
  exact Prod.ext (encS_inj hp hq h1) (by simpa using h2)
theorem one_enc5 {p : Nat × Value} (h : p.2.oneCell' = true) : (enc5 p).all (·.oneCell') = true := by
  unfold enc5
  rw [List.all_append, one_encS]
  simpa using h
/-- Terms: scalars, and lists that are read each by itself. -/
def TFs (w : World) (v : Value) (ts : List (Nat × List Nat)) : Prop := ∃ ps : List (Nat × Value), SlAt w v ts.length (ps.flatMap enc5) ∧ ps.length = ts.length ∧ ∀ (i : Nat) (p : Nat × Value) (t : Nat × List Nat), ps[i]? = some p → ts[i]? = some t → p.1 = t.1 ∧ okS t.1 ∧ Ls encS okS w p.2 t.2
def cTF : Cod (List (Nat × List Nat)) := ⟨TFs, fun w v a b ⟨ps, h1, h2, h3⟩ ⟨qs, k1, k2, k3⟩ => by
  have hl : a.length = b.length := slAt_len h1 k1
  have okp : ∀ p ∈ ps, okS p.1 := fun p hp => by
    obtain ⟨i, hi⟩ := List.getElem?_of_mem hp
    have hlt : i < a.length := by rw [← h2]; exact (List.getElem?_eq_some_iff.1 hi).1
    have := h3 i p _ hi (List.getElem?_eq_getElem hlt)
    rw [this.1]; exact this.2.1
  have okq : ∀ p ∈ qs, okS p.1 := fun p hp => by
    obtain ⟨i, hi⟩ := List.getElem?_of_mem hp
    have hlt : i < b.length := by rw [← k2]; exact (List.getElem?_eq_some_iff.1 hi).1
    have := k3 i p _ hi (List.getElem?_eq_getElem hlt)
    rw [this.1]; exact this.2.1
  have hpq : ps = qs := flat_inj (ok := fun p : Nat × Value => okS p.1) enc5_len enc5_inj ps qs okp okq (by omega) (slAt_inj (by rw [flat_len enc5_len, flat_len enc5_len]; omega) h1 k1).2
  subst hpq
  refine List.ext_getElem? fun i => ?_
  rcases Nat.lt_or_ge i a.length with hi | hi
  · have hp : ps[i]? = some (ps[i]'(by omega)) := List.getElem?_eq_getElem (by omega)
    have ha : a[i]? = some a[i] := List.getElem?_eq_getElem hi
    have hb : b[i]? = some (b[i]'(by omega)) := List.getElem?_eq_getElem (by omega)
    have e1 := h3 i _ _ hp ha
    have e2 := k3 i _ _ hp hb
    rw [ha, hb]
    exact congrArg some (Prod.ext (e1.1.symm.trans e2.1) (cLS.inj _ _ _ _ e1.2.2 e2.2.2))
  · rw [List.getElem?_eq_none hi, List.getElem?_eq_none (by omega)]⟩
theorem cTF_stable : cTF.Stable := fun _ _ _ _ hs ⟨ps, h1, h2, h3⟩ => ⟨ps, h1.stp0 hs, h2, fun i p t hp ht => let ⟨a, b, c⟩ := h3 i p t hp ht; ⟨a, b, c.stp0 hs⟩⟩
def stepF (o : List Nat) (t : Nat × List Nat) : List Nat := trim (addF o (trim (t.2.map (Fk.mul t.1).op)))
def plainF (ts : List (Nat × List Nat)) : List Nat := ts.foldl stepF []
theorem addF_len (a b : List Nat) {n : Nat} (ha : a.length ≤ n) (hb : b.length ≤ n) : (addF a b).length ≤ n := by
  unfold addF
  split <;> rw [addL_len] <;> assumption
theorem addF_lt (a b : List Nat) : ∀ x ∈ addF a b, x < lN := by
  unfold addF
  split <;> exact addL_lt _ _
theorem mem_trimG {l : List Nat} {x : Nat} (h : x ∈ trim l) : x ∈ l := by rw [← trim_pre] at h; exact List.mem_of_mem_take h
theorem plainF_len {n : Nat} (ts : List (Nat × List Nat)) : (∀ t ∈ ts, t.2.length ≤ n) → ∀ o : List Nat, o.length ≤ n → (ts.foldl stepF o).length ≤ n := by
  induction ts with
  | nil => intro _ o h; exact h
  | cons t r ih =>
    intro ht o h
    refine ih (fun t h => ht t (by simp [h])) _ (Nat.le_trans (trim_len _) (addF_len _ _ h (Nat.le_trans (trim_len _) ?_)))
    rw [List.length_map]
    exact ht t (by simp)
theorem plainF_lt (ts : List (Nat × List Nat)) : ∀ o : List Nat, (∀ x ∈ o, x < lN) → ∀ x ∈ ts.foldl stepF o, x < lN := by
  induction ts with
  | nil => intro o h; exact h
  | cons t r ih => intro o _; exact ih _ fun x hx => addF_lt _ _ x (mem_trimG hx)
/-- A list of the call's own that is such a sum. -/
def TrP (lo : Nat) (w : World) (v : Value) (l : List Nat) : Prop := ∃ x, v = .agg #[x] ∧ w.ownsRow lo 25 4 x l.length (l.flatMap encS)
theorem methFTimes (a k : Value) : Meth Tryz.prog (.iface 32 (.agg #[a])) "Times" [k] 181 [.agg #[a], k] := fun w => by kernel_rfl
theorem methFAdd (a k : Value) : Meth Tryz.prog (.iface 32 (.agg #[a])) "Add" [k] 178 [.agg #[a], k] := fun w => by kernel_rfl
theorem makeIF (x : Value) (w : World) : (Instr.makeInterface 32 x).run Tryz.prog w = .ok (.iface 32 x) w := by kernel_rfl
theorem tyTF : ElTy Tryz.prog 178 198 5 56 (.agg #[U 0, U 0, U 0, U 0, .slice none 0 0]) := ⟨by kernel_rfl, by kernel_rfl⟩
theorem szTF : sz Tryz.prog 198 = some 5 := by kernel_rfl
theorem aggTF : agg? Tryz.prog 198 = some true := by kernel_rfl

def cPlainF : Contract := fnW (Cods.cons cTF Cods.nil) (fun p _ => p.1.length ≤ mx ∧ ∀ t ∈ p.1, t.2.length ≤ mx) (fun p w v w' => TrP w.heap.size w' v (plainF p.1))
def Tgf : Table := (T0.add 181 cFTim).add 178 cFAdd
theorem keepTgf : AllKeep Tryz.prog GT Tgf := (keepT0.add keepsFTim).add keepsFAdd
def ann111 : Ann := ⟨[(3, ([8], [1]))], [], 70, [], [], some false, [], []⟩
def kb111_0 (b0 b1 : Nat) : List KB := [⟨b0, true, 32, #[(.slice none 0 0)]⟩, ⟨b1, true, 32, #[(.slice none 0 0)]⟩]
def kb111_1 (b0 b1 b2 : Nat) (x4 x10 x11 x12 x13 x14 : Value) : List KB := [⟨b0, true, 32, #[(.slice none 0 0)]⟩, ⟨b1, true, 32, #[x4]⟩, ⟨b2, true, 198, #[x10, x11, x12, x13, x14]⟩]
theorem vc111 (X : Ctx) (β : Nat → Nat) (x0 : Value) : (run Tryz.prog ann111 111 [.x (.v 0)] [] [] 2).den X (env0 [x0] X.w0) 2 β 0 (fun _ _ _ => False) = (
  AskNew X.w0 fun b0 =>
  AskNew X.w0 fun b1 =>
  Ask (rLen X.P 178 x0) fun x2 =>
  ∃ (I0 : List Value → World → Prop) (μ0 : List Value → World → Nat), (∀ w, KnownV X X.w0 [] (kb111_0 b0 b1) w → I0 [(J 0), (.slice none 0 0)] w) ∧ ∀ x3 x4 w5, I0 [x3, x4] w5 →
    Ask (rBin X.P .lss 3 false false x3 x2) fun x6 =>
    (∃ t, x6 = .bool t) ∧ (x6 = .bool true →
      Ask (rIad X.P 178 x0 x3) fun x7 =>
      Ask (rLoad X w5 [] 198 x7) fun x8 =>
      AskNew w5 fun b2 =>
      Ask (rAgg 5 x8) fun x9 =>
      Ask (rSel (aggArr x9) 0 1 false) fun x10 =>
      Ask (rSel (aggArr x9) 1 1 false) fun x11 =>
      Ask (rSel (aggArr x9) 2 1 false) fun x12 =>
      Ask (rSel (aggArr x9) 3 1 false) fun x13 =>
      Ask (rSel (aggArr x9) 4 1 false) fun x14 =>
      Ask (rGen X.P (Go.Op.makeInterface 32 (Go.Operand.tmp 12)) 20 [(12, (.agg #[x4]))]) fun x15 =>
      Ask (rGen X.P (Go.Op.makeInterface 32 (Go.Operand.tmp 15)) 20 [(15, (.agg #[x14]))]) fun x16 =>
      AskJ X w5 [b2] (kb111_1 b0 b1 b2 x4 x10 x11 x12 x13 x14) false x16 "Times" [(.agg #[x10, x11, x12, x13])] fun x17 w17 =>
      AskJ X w17 [] (kb111_1 b0 b1 b2 x4 x10 x11 x12 x13 x14) false x15 "Add" [x17] fun x18 w18 =>
      Ask (rAgg 1 x18) fun x19 =>
      Ask (rSel (aggArr x19) 0 1 false) fun x20 =>
      Ask (rBin X.P .add 3 false true x3 (J 1)) fun x21 =>
      Again X w18 [b1] [] fun w => I0 [x21, x20] w ∧ μ0 [x21, x20] w < μ0 [x3, x4] w5) ∧ (x6 = .bool false →
      Ask (rPlain x4) fun x7 =>
      Ret X w5 [b0] [] (.agg #[x7]))) := by kernel_rfl
theorem keepsPlainF : Keeps1 Tryz.prog GT 111 cPlainF := by
  refine keepsW (T := Tgf) (A := ann111) hMix keepTgf hGT (calls_of (by kernel_rfl)) (callsW_of (by kernel_rfl)) fun args ⟨ts, _⟩ w0 hrd hpre hg => ?_
  obtain ⟨x, _, rfl, hl, rfl⟩ := hrd
  dsimp only at hl hpre
  obtain ⟨ps, hsl, hpl, hel⟩ := hl
  simp only [mx] at hpre
  refine ⟨[.x (.v 0)], [], [], 2, env0 [x] w0, fun b => b, 0, rfl, rfl, fun X hX => mem_none hX rfl, fun X hP hS hw hX hR => ?_⟩
  subst hw; try dsimp only at hR
  rw [vc111 X]
  intro b0 hb0 b1 hb1
  refine a_len hP tyTF hsl ?_
  refine ⟨fun a w => ∃ (i : Nat) (o : Value) (B : Nat), a = [J i, o] ∧ i ≤ ts.length ∧ (b0 < B ∧ b1 < B) ∧ X.w0.heap.size ≤ B ∧ Kn X w ∧ w.ownsRow B 25 4 o ((ts.take i).foldl stepF []).length (((ts.take i).foldl stepF []).flatMap encS), fun a _ => match a with | i :: _ => ts.length - intNat i | _ => 0,
    fun w hw => ⟨0, _, w.heap.size, rfl, Nat.zero_le _, ⟨hw.low (by simp [kb111_0]), hw.low (by simp [kb111_0])⟩, hw.sz0, hw.kn, World.ownsRow_nil _ _ _ _⟩, ?_⟩
  rintro _ _ w ⟨i, o, B, he, hi, hB, hB0, hk, ho⟩
  simp only [List.cons.injEq, and_true] at he
  obtain ⟨rfl, rfl⟩ := he
  have hlen : ((ts.take i).foldl stepF []).length ≤ 4194304 := plainF_len _ (fun t ht => hpre.2 t (List.mem_of_mem_take ht)) _ (by simp)
  have hlt' : ∀ z ∈ (ts.take i).foldl stepF [], z < lN := plainF_lt _ _ (fun _ h => by cases h)
  rw [ask_lssN]
  refine a_ifD (fun hlt => ?_) fun hge => ?_
  · have hl' := hsl.stp0 (hk.stp0 hX)
    have hpi : ps[i]? = some (ps[i]'(by omega)) := List.getElem?_eq_getElem (by omega)
    obtain ⟨ek, okk, hls⟩ := hel i _ _ hpi (List.getElem?_eq_getElem hlt)
    have hbt := hpre.2 _ (List.getElem_mem hlt)
    refine a_iadN hP tyTF hl' hlt ?_
    refine a_load_agg (cs := enc5 (ps[i]'(by omega))) hk hl' (by rw [hP]; exact aggTF) (by rw [hP]; exact szTF) (fun _ _ => List.not_mem_nil) (by simp [enc5]) (flat_at enc5_len ps i _ hpi) ?_
    intro b2 hb2
    refine a_agg rfl (one_enc5 (slAt_one hls.1)) ?_
    iterate 5 refine a_sel1 rfl ?_
    rw [foldSg, ek, ask_makeI (by rw [hP]; exact makeIF _), ask_makeI (by rw [hP]; exact makeIF _)]
    refine call_J hP hX hS (methFTimes _ _) (T := Tgf) (f := 181) rfl (ts[i].2, ts[i].1) (fun w2 hw => ⟨⟨_, rfl, hls.stp0 (hw.kn.stp0 hX), okk⟩, hbt⟩) fun v1 w1 w1' h1 k1 s1 su1 hv => ?_
    obtain ⟨y1, rfl, o1⟩ := hv
    dsimp only at o1
    have lo0 : b0 < w1.heap.size := h1.low (by simp [kb111_1])
    have lo1 : b1 < w1.heap.size := h1.low (by simp [kb111_1])
    have ho1 := own_stp ho su1 (own_off ho (all1 hb2))
    refine call_J hP hX hS (methFAdd _ _) (T := Tgf) (f := 178) rfl ((ts.take i).foldl stepF [], trim (ts[i].2.map (Fk.mul ts[i].1).op)) (fun w2 hw => ⟨⟨_, _, rfl, ⟨(own_slAt ho1).stp0 hw.stp, fun z hz => Nat.lt_trans (hlt' z hz) (by decide)⟩, ⟨(own_slAt o1).stp0 hw.stp, fun z hz => ?_⟩⟩, hlen, ?_⟩) fun v2 w2 w2' h2 k2 s2 su2 hv => ?_
    · obtain ⟨q, _, rfl⟩ := List.mem_map.1 (mem_trimG hz)
      exact Nat.lt_trans (Fk.lt _ _) (by decide)
    · exact Nat.le_trans (trim_len _) (by rw [List.length_map]; exact hbt)
    obtain ⟨y2, rfl, o2⟩ := hv
    dsimp only at o2
    have z1 := s1.size
    have z2 := h2.size
    refine a_agg (cs := [y2]) rfl (by simp [own_one o2]) (a_sel1 rfl ?_)
    rw [ask_succ (by omega)]
    intro w3 hw3
    refine ⟨⟨i + 1, y2, w2.heap.size, rfl, hlt, ⟨by omega, by omega⟩, h2.sz0, hw3.kn, ?_⟩, by simp [intNat]; omega⟩
    rw [foldl_take _ _ _ _ hlt]
    exact own_stp o2 hw3.stp (off_own o2 (all1 (by omega)))
  · obtain rfl : i = ts.length := by omega
    rw [List.take_length] at ho
    refine a_plain (own_one ho) ?_
    exact hR _ _ _ _ fun w2 hw2 => ⟨_, rfl, own_mono (own_stp ho hw2.stp (off_own ho (all1 hB.1))) hB0⟩
#print axioms keepsPlainF

/-! ### sum -/
def cSumF : Contract := fnW (Cods.cons cTF Cods.nil) (fun p _ => p.1.length < 24 ∧ ∀ t ∈ p.1, t.2.length ≤ mx) (fun p w v w' => TrP w.heap.size w' v (plainF p.1))
def Tgg : Table := T0.add 111 cPlainF
theorem keepTgg : AllKeep Tryz.prog GT Tgg := keepT0.add keepsPlainF
/-! ### Commit -/
/-- A set of which the base and the blinding's base are read. -/
def cCmF : Cods (List Nat × List Nat × Nat × Nat) := ⟨fun w l p => ∃ x y z g h, l = [.agg #[x, y, z, g, h], S p.2.2.1, S p.2.2.2] ∧ (z.oneCell' = true ∧ g.oneCell' = true ∧ h.oneCell' = true) ∧ cLS.rd w x p.1 ∧ cLS.rd w y p.2.1 ∧ okS p.2.2.1 ∧ okS p.2.2.2, fun w l ⟨a, b, c, d⟩ ⟨a', b', c', d'⟩ ⟨x, y, z, g, h, e, _, h1, h2, h3, h4⟩ ⟨x', y', z', g', h', e', _, k1, k2, k3, k4⟩ => by
  dsimp only at e h1 h2 h3 h4 e' k1 k2 k3 k4
  rw [e] at e'
  simp only [List.cons.injEq, Value.agg.injEq, and_true] at e'
  obtain ⟨e1, e2, e3⟩ := e'
  have e1 := congrArg Array.toList e1
  simp only [List.cons.injEq, and_true] at e1
  obtain ⟨rfl, rfl, _⟩ := e1
  rw [cLS.inj _ _ _ _ h1 k1, cLS.inj _ _ _ _ h2 k2, S_inj h3 k3 e2, S_inj h4 k4 e3]⟩
def cCommitF : Contract := fnW cCmF (fun p _ => p.1.length ≤ mx ∧ p.2.1.length ≤ mx) (fun p w v w' => TrP w.heap.size w' v (plainF [(p.2.2.1, p.1), (p.2.2.2, p.2.1)]))

/-! ### at -/
def cAtR : Cods (List Nat × Nat) := ⟨fun w l p => ∃ x, l = [x, J p.2] ∧ cLS.rd w x p.1, fun w l ⟨a, k⟩ ⟨a', k'⟩ ⟨x, e, h⟩ ⟨x', e', h'⟩ => by
  dsimp only at e h e' h'
  rw [e] at e'
  simp only [List.cons.injEq, and_true] at e'
  obtain ⟨rfl, e2⟩ := e'
  rw [cLS.inj _ _ _ _ h h', J_inj e2]⟩
def cAt9 : Contract := fnW cAtR (fun _ _ => True) (fun p _ v _ => v = S (p.1.getD p.2 0))
end Go.Vc
