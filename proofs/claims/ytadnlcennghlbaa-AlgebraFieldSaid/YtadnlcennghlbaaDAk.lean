/-
  The law AlgebraField.
-/
import Derived.Test.YtadnlcennghlbaaDAj
namespace Go.Vc
open Go Go.Proofs Go.RowKit
def ann5 : Ann := ⟨[(5, ([6], [])), (10, ([7, 8], [])), (13, ([7, 9], [])), (23, ([4, 12, 13], [])), (32, ([15], []))], [10], 70, [(6, false), (7, false), (23, false), (22, false)], [], none, [], []⟩
theorem vc5 (X : Ctx) (β : Nat → Nat) (x0 x1 : Value) : (run Try.prog ann5 5 [.x (.v 0), .x (.v 1)] [] [] 3).den X (env0 [x0, x1] X.w0) 3 β 0 (fun _ _ _ => False) = (
 AskW X X.w0 [] [] false 6 [] fun x3 w3 =>
 Ask (rUn X.P .not x3) fun x4 =>
 (∃ t, x4 = .bool t) ∧ (x4 = .bool true →
 Ret X w3 [] [] (.bool false)) ∧ (x4 = .bool false →
 AskW X w3 [] [] false 7 [x0] fun x5 w5 =>
 AskW X w5 [] [] false 7 [x1] fun x6 w6 =>
 ∃ (I0 : List Value → World → Prop) (μ0 : List Value → World → Nat), (∀ w, KnownV X w6 [] [] w → I0 [x6] w) ∧ ∀ x7 w8, I0 [x7] w8 →
 Ask (rLen X.P 24 x7) fun x9 =>
 Ask (rLen X.P 24 x5) fun x10 =>
 Ask (rBin X.P .lss 3 false false x9 x10) fun x11 =>
 (∃ t, x11 = .bool t) ∧ (x11 = .bool true →
 Ask (rLen X.P 24 x7) fun x12 =>
 Ask (rPlain x12) fun x13 =>
 AskO X w8 [] [] false (Op.buildSlice 24 1 #[(0, Operand.tmp 30)]) 24 [(30, (.agg #[x13]))] fun x14 w14 =>
 AskO X w14 [] [] true (appOp (.tmp 27) (.tmp 31) 24) 24 [(27, x7), (31, x14)] fun x15 w15 =>
 Again X w15 [] [] fun w => I0 [x15] w ∧ μ0 [x15] w < μ0 [x7] w8) ∧ (x11 = .bool false →
 Ask (rLen X.P 24 x5) fun x12 =>
 Ask (rSlc X.P 24 x7 none (some x12) none) fun x13 =>
 ∃ (I0 : List Value → World → Prop) (μ0 : List Value → World → Nat), (∀ w, KnownV X w8 [] [] w → I0 [(.bool false), (J 0)] w) ∧ ∀ x14 x15 w16, I0 [x14, x15] w16 →
 Ask (rLen X.P 24 x5) fun x17 =>
 Ask (rBin X.P .lss 3 false false x15 x17) fun x18 =>
 (∃ t, x18 = .bool t) ∧ (x18 = .bool true →
 ∃ (I1 : List Value → World → Prop) (μ1 : List Value → World → Nat), (∀ w, KnownV X w16 [] [] w → I1 [x14, (J 0)] w) ∧ ∀ x19 x20 w21, I1 [x19, x20] w21 →
 Ask (rBin X.P .lss 3 false false x20 x15) fun x22 =>
 (∃ t, x22 = .bool t) ∧ (x22 = .bool true →
 AskG [(x19, false)] (rIad X.P 24 x5 x15) fun x23 =>
 AskG [(x19, false)] (rLoad X w21 [] 27 x23) fun x24 =>
 AskGF X [(x19, false)] 10 [x24] fun x25 =>
 AskG [(x19, false)] (rIad X.P 24 x5 x20) fun x26 =>
 AskG [(x19, false)] (rLoad X w21 [] 27 x26) fun x27 =>
 AskGF X [(x19, false)] 10 [x27] fun x28 =>
 AskG [(x19, false)] (rBin X.P .eql 3 false false x25 x28) fun x29 =>
 Ask (rPick x19 (.bool true) x29) fun x30 =>
 Ask (rBin X.P .add 3 false true x20 (J 1)) fun x31 =>
 Again X w21 [] [] fun w => I1 [x30, x31] w ∧ μ1 [x30, x31] w < μ1 [x19, x20] w21) ∧ (x22 = .bool false →
 Ask (rBin X.P .add 3 false true x15 (J 1)) fun x23 =>
 Again X w21 [] [] fun w => I0 [x19, x23] w ∧ μ0 [x19, x23] w < μ0 [x14, x15] w16)) ∧ (x18 = .bool false →
 AskW X w16 [] [] false 22 [x5, x13] fun x19 w19 =>
 Ask (rExt X.P x19 0) fun x20 =>
 Ask (rExt X.P x19 1) fun x21 =>
 (∃ t, x14 = .bool t) ∧ (x14 = .bool true →
 Ask (rBin X.P .eql 29 false true x21 (J 60)) fun x22 =>
 AskG [(x22, true)] (rLen X.P 24 x20) fun x23 =>
 AskG [(x22, true)] (rBin X.P .eql 3 false true x23 (J 0)) fun x24 =>
 Ask (rPick x22 x24 (.bool false)) fun x25 =>
 Ret X w19 [] [] x25) ∧ (x14 = .bool false →
 Ask (rBin X.P .neq 29 false true x21 (J 0)) fun x22 =>
 AskG [(x22, false)] (rLen X.P 24 x20) fun x23 =>
 AskG [(x22, false)] (rLen X.P 24 x5) fun x24 =>
 AskG [(x22, false)] (rBin X.P .neq 3 false false x23 x24) fun x25 =>
 Ask (rPick x22 (.bool true) x25) fun x26 =>
 (∃ t, x26 = .bool t) ∧ (x26 = .bool true →
 Ret X w19 [] [] (.bool false)) ∧ (x26 = .bool false →
 ∃ (I0 : List Value → World → Prop) (μ0 : List Value → World → Nat), (∀ w, KnownV X w19 [] [] w → I0 [(.bool false), (.slice none 0 0), (J 0)] w) ∧ ∀ x27 x28 x29 w30, I0 [x27, x28, x29] w30 →
 Ask (rLen X.P 24 x5) fun x31 =>
 Ask (rBin X.P .lss 3 false false x29 x31) fun x32 =>
 (∃ t, x32 = .bool t) ∧ (x32 = .bool true →
 Ask (rIad X.P 24 x5 x29) fun x33 =>
 Ask (rLoad X w30 [] 27 x33) fun x34 =>
 AskW X w30 [] [] false 23 [x20, x34] fun x35 w35 =>
 AskF X 10 [x35] fun x36 =>
 Ask (rIad X.P 24 x13 x29) fun x37 =>
 Ask (rLoad X w30 [] 27 x37) fun x38 =>
 AskF X 10 [x38] fun x39 =>
 Ask (rBin X.P .neq 3 false false x36 x39) fun x40 =>
 (∃ t, x40 = .bool t) ∧ (x40 = .bool true →
 Ret X w35 [] [] (.bool false)) ∧ (x40 = .bool false →
 Ask (rIad X.P 24 x5 x29) fun x41 =>
 Ask (rLoad X w35 [] 27 x41) fun x42 =>
 AskW X w35 [] [] false 23 [x13, x42] fun x43 w43 =>
 AskO X w43 [] [] false (Op.buildSlice 24 1 #[(0, Operand.tmp 110)]) 24 [(110, x43)] fun x44 w44 =>
 AskO X w44 [] [] true (appOp (.tmp 104) (.tmp 111) 24) 24 [(104, x28), (111, x44)] fun x45 w45 =>
 Ask (rBin X.P .add 3 false true x29 (J 1)) fun x46 =>
 Again X w45 [] [] fun w => I0 [x27, x45, x46] w ∧ μ0 [x27, x45, x46] w < μ0 [x27, x28, x29] w30)) ∧ (x32 = .bool false →
 AskW X w30 [] [] false 22 [x5, x28] fun x33 w33 =>
 Ask (rExt X.P x33 0) fun x34 =>
 Ask (rExt X.P x33 1) fun x35 =>
 Ask (rBin X.P .neq 29 false true x35 (J 0)) fun x36 =>
 AskG [(x36, false)] (rLen X.P 24 x34) fun x37 =>
 AskG [(x36, false)] (rLen X.P 24 x13) fun x38 =>
 AskG [(x36, false)] (rBin X.P .neq 3 false false x37 x38) fun x39 =>
 Ask (rPick x36 (.bool true) x39) fun x40 =>
 (∃ t, x40 = .bool t) ∧ (x40 = .bool true →
 Ret X w33 [] [] (.bool false)) ∧ (x40 = .bool false →
 ∃ (I0 : List Value → World → Prop) (μ0 : List Value → World → Nat), (∀ w, KnownV X w33 [] [] w → I0 [(J 0)] w) ∧ ∀ x41 w42, I0 [x41] w42 →
 Ask (rLen X.P 24 x34) fun x43 =>
 Ask (rBin X.P .lss 3 false false x41 x43) fun x44 =>
 (∃ t, x44 = .bool t) ∧ (x44 = .bool true →
 Ask (rIad X.P 24 x34 x41) fun x45 =>
 Ask (rLoad X w42 [] 27 x45) fun x46 =>
 AskF X 10 [x46] fun x47 =>
 Ask (rIad X.P 24 x13 x41) fun x48 =>
 Ask (rLoad X w42 [] 27 x48) fun x49 =>
 AskF X 10 [x49] fun x50 =>
 Ask (rBin X.P .neq 3 false false x47 x50) fun x51 =>
 (∃ t, x51 = .bool t) ∧ (x51 = .bool true →
 Ret X w42 [] [] (.bool false)) ∧ (x51 = .bool false →
 Ask (rBin X.P .add 3 false true x41 (J 1)) fun x52 =>
 Again X w42 [] [] fun w => I0 [x52] w ∧ μ0 [x52] w < μ0 [x41] w42)) ∧ (x44 = .bool false →
 Ret X w42 [] [] (.bool true)))))))))) := by kernel_rfl
def cField : Contract := fnW (Cods.cons cLI (Cods.cons cLI Cods.nil)) (fun _ _ => True) (fun _ _ v _ => v = .bool true)
def TA7f : Table := (((TA7.add 6 cAlv).add 7 c7Ss).add 23 c7Ev).add 22 c7Ip
theorem keepTA7f : AllKeep Try.prog GA TA7f := (((keepTA7.add keepsAlv).add keeps7Ss).add keeps7Ev).add keeps7Ip
theorem own_7 {w w' : World} {base : Nat} {v : Value} {l : List Int} {n : Nat} (h : w.ownsRow base 27 1 v n (l.flatMap encS7)) (hn : n = l.length) {ex : List Nat} (hs : Stp ex w w') (he : ∀ b ∈ ex, b < base ∨ w.heap.size ≤ b) : Ls7 w' v l :=
  ⟨hn ▸ (own_slAt h).stp hs fun g hg hm => by
    have h1 := h.lt g hg
    have h2 := he g hm
    omega, fun _ _ => trivial⟩
theorem cf_iff {a b : List Int} {i j : Nat} : (a.getD i 0) % 7 = (b.getD j 0) % 7 ↔ cf a i = cf b j := by
  rw [cf, cf, fs7, fs7, rI_eq]; rfl
theorem evf (c : List Int) (x : Int) : fs7 (sR.eval c x) = evR (cf c) c.length (fs7 x) := eval7 c x
theorem r_iff {a b : Int} : a % 7 = b % 7 ↔ fs7 a = fs7 b := by rw [fs7, fs7, rI_eq]; rfl
/-- Has some place ahead of i the same? -/
def TwI (xs : List Int) (i : Nat) : Prop := ∃ i' j, j < i' ∧ i' < i ∧ cf xs i' = cf xs j
def TwJ (xs : List Int) (i j : Nat) : Prop := TwI xs i ∨ ∃ j', j' < j ∧ cf xs i = cf xs j'
theorem flat7 (l : List Int) : l.flatMap encS7 = l.map fun a => .int .i64 a := by
  induction l with
  | nil => rfl
  | cons a r ih => rw [List.flatMap_cons, ih]; rfl
theorem take7 (l : List Int) (k : Nat) : ((l.flatMap encS7).drop (0 * 1)).take ((k - 0) * 1) = (l.take k).flatMap encS7 := by
  rw [flat7, flat7, Nat.zero_mul, List.drop_zero, Nat.sub_zero, Nat.mul_one, List.map_take]
section
variable {X : Ctx} {u : World} {v : Value} {l : List Int} {i : Nat} {ow : List Nat} {K : Value → Prop} {g : List (Value × Bool)}
theorem ld_S7g (h : condsV g) (hP : X.P = Try.prog) (hk : Kn X u) (hl : SlAt u v l.length (l.flatMap encS7)) (hi : i < l.length) (how : ∀ b, v.ownBlock = some b → b ∉ ow)
    (hK : K (S7 (l.getD i 0))) : AskG g (rIad X.P 24 v (J i)) fun p => AskG g (rLoad X u ow 27 p) K := by
  have := ld_S7 (K := fun v => v = S7 (l.getD i 0)) hP hk hl hi how rfl
  refine a_G_on h ⟨this.1, fun p hp => a_G_on h ?_⟩
  obtain ⟨h1, h2⟩ := this.2 p hp
  exact ⟨h1, fun v' hv' => by rw [h2 v' hv']; exact hK⟩
end
theorem twJ0 {xs : List Int} {i : Nat} : TwJ xs i 0 ↔ TwI xs i := ⟨fun h => h.elim id fun ⟨_, h, _⟩ => by omega, .inl⟩
theorem twJ1 {xs : List Int} {i j : Nat} : TwJ xs i (j + 1) ↔ TwJ xs i j ∨ cf xs i = cf xs j := by
  constructor
  · rintro (h | ⟨j', h1, h2⟩)
    · exact .inl (.inl h)
    · by_cases e : j' = j
      · subst e; exact .inr h2
      · exact .inl (.inr ⟨j', by omega, h2⟩)
  · rintro ((h | ⟨j', h1, h2⟩) | h)
    · exact .inl h
    · exact .inr ⟨j', by omega, h2⟩
    · exact .inr ⟨j, by omega, h⟩
theorem twI1 {xs : List Int} {i : Nat} : TwI xs (i + 1) ↔ TwJ xs i i := by
  constructor
  · rintro ⟨i', j, h1, h2, h3⟩
    by_cases e : i' = i
    · subst e; exact .inr ⟨j, h1, h3⟩
    · exact .inl ⟨i', j, h1, by omega, h3⟩
  · rintro (⟨i', j, h1, h2, h3⟩ | ⟨j, h1, h2⟩)
    · exact ⟨i', j, h1, by omega, h3⟩
    · exact ⟨i, j, h1, by omega, h2⟩
theorem twI_all {xs : List Int} : TwI xs xs.length ↔ Twice xs := Iff.rfl
set_option maxHeartbeats 4000000 in
theorem keepsField : Keeps1 Try.prog GA 5 cField := by
  refine keepsW (T := TA7f) (A := ann5) hMix keepTA7f hGA (calls_of (by kernel_rfl)) (callsW_of (by kernel_rfl)) fun args ⟨c, d, _⟩ w0 hrd hpre hg => ?_
  obtain ⟨vc, _, rfl, hc, vd, _, rfl, hd, rfl⟩ := hrd
  replace hc : LsI w0 vc c := hc
  replace hd : LsI w0 vd d := hd
  refine ⟨[.x (.v 0), .x (.v 1)], [], [], 3, env0 [vc, vd] w0, fun b => b, 0, rfl, rfl, fun X hX => mem_none hX rfl, fun X hP hS hw hX hR => ?_⟩
  subst hw; try dsimp only at hR
  rw [vc5 X]
  refine call_W hX hS (T := TA7f) (f := 6) rfl () (fun w hw => ⟨rfl, trivial⟩) fun v u3 w3 h3 k3 s3 su3 hv => ?_
  subst hv
  rw [ask_not]
  refine a_if (fun h => by cases h) fun _ => ?_
  refine call_W hX hS (T := TA7f) (f := 7) rfl (c, ()) (fun w hw => ⟨⟨_, _, rfl, hc.stp0 (su3.trans0 hw.stp), rfl⟩, trivial⟩) fun vx u5 w5 h5 k5 s5 su5 ox => ?_
  refine call_W hX hS (T := TA7f) (f := 7) rfl (d, ()) (fun w hw => ⟨⟨_, _, rfl, hd.stp0 (su3.trans0 (su5.trans0 hw.stp)), rfl⟩, trivial⟩) fun vy u6 w6 h6 k6 s6 su6 oy => ?_
  dsimp only at ox oy
  obtain ⟨xs, hxs⟩ : ∃ xs, xs = c.take 40 := ⟨_, rfl⟩
  rw [← hxs] at ox
  have lx : xs.length ≤ 40 := by rw [hxs]; simp; omega
  have ly0 : (d.take 40).length ≤ 40 := by simp; omega
  have x6 : ∀ {w : World}, Stp [] w6 w → Ls7 w vx xs := fun hs => own_7 ox rfl (su6.trans0 hs) (by simp)
  have z6 : X.w0.heap.size ≤ u6.heap.size := h6.sz0
  have z66 := s6.size
  have bx : ∀ g, vx.ownBlock = some g → g < u6.heap.size := fun g hg => by have := (ox.lt g hg).2; have := h6.size; omega
  -- the values, as many as there are places
  refine ⟨fun q w => ∃ (v : Value) (l : List Int), q = [v] ∧ l.length ≤ 40 ∧ Kn X w ∧ u6.heap.size ≤ w.heap.size ∧ Ls7 w vx xs ∧ w.ownsRow u6.heap.size 27 1 v l.length (l.flatMap encS7), fun q _ => match q with | [.slice _ n _] => 40 - n | _ => 0, fun w hw => ⟨vy, d.take 40, rfl, ly0, hw.kn, by have := hw.size; omega, x6 hw.stp, own_stp0 oy hw.stp⟩, ?_⟩
  rintro v w8 ⟨_, l, he, hl, hk8, hz8, x8, ov⟩
  simp only [List.cons.injEq, and_true] at he
  subst he
  refine a_len hP ty7 (own_slAt ov) (a_len hP ty7 x8.1 ?_)
  rw [ask_lssN]
  refine a_ifD (fun hlt => ?_) fun hge => ?_
  · refine a_len hP ty7 (own_slAt ov) ?_
    refine a_plain rfl ?_
    refine a_push (k := 1) (encS7 (l.length : Int)).toArray hX hP ty7 (by decide) rfl (by decide) (by decide) (by decide) (by kernel_rfl) rfl (by simp [encS7, Value.oneCell']) rfl z6 hz8 ov (by unfold maxLen; omega) (by omega) fun v2 w2 hk2 hs2 ho2 _ => ?_
    intro w3' hw3
    have ho3 := own_stp0 ho2 hw3.stp
    obtain ⟨a1, c1, e1, _⟩ := slAt_form (own_slAt ov)
    obtain ⟨a2, c2, e2, _⟩ := slAt_form (own_slAt ho3)
    refine ⟨⟨v2, l ++ [(l.length : Int)], rfl, by simp; omega, hw3.kn, by have := hs2.size; have := hw3.size; omega, (x8.stp hs2 fun g hg hm => ?_).stp0 hw3.stp, ?_⟩, ?_⟩
    · have h6 := bx g hg
      have h7 := (ov.lt g (by simpa using hm)).1
      omega
    · rw [List.flatMap_append, List.length_append]
      simpa using ho3
    · rw [e1, e2]
      show 40 - (l.length + 1) < 40 - l.length
      omega
  have hge' : xs.length ≤ l.length := by omega
  refine a_len hP ty7 x8.1 ?_
  refine a_slcH hP ty7 (own_slAt ov) hge' ?_
  obtain ⟨ys, hys⟩ : ∃ ys, ys = l.take xs.length := ⟨_, rfl⟩
  have lys : ys.length = xs.length := by rw [hys]; simp; omega
  obtain ⟨vz, hvz⟩ : ∃ vz, vz = SubV v 0 xs.length 1 := ⟨_, rfl⟩
  rw [← hvz]
  have y8 : Ls7 w8 vz ys := ⟨by
    have := slAt_sub (s := 1) (own_slAt ov) (Nat.zero_le _) hge'
    rw [take7, ← hys, ← hvz, Nat.sub_zero] at this
    rw [lys]; exact this, fun _ _ => trivial⟩
  -- unlike?
  refine ⟨fun q w => ∃ (i : Nat) (t : Bool), q = [.bool t, J i] ∧ (t = true ↔ TwI xs i) ∧ i ≤ xs.length ∧ Kn X w ∧ Stp [] w8 w, fun q _ => match q with | [_, i] => xs.length - intNat i | _ => 0, fun w hw => ⟨0, false, rfl, ⟨fun h => (by cases h), fun ⟨_, _, _, h, _⟩ => (by omega)⟩, Nat.zero_le _, hw.kn, hw.stp⟩, ?_⟩
  rintro _ _ w16 ⟨i, t, he, ht, hi, hk16, s16⟩
  simp only [List.cons.injEq, and_true] at he
  obtain ⟨rfl, rfl⟩ := he
  refine a_len hP ty7 x8.1 ?_
  rw [ask_lssN]
  refine a_ifD (fun hlt => ?_) fun hgi => ?_
  · refine ⟨fun q w => ∃ (j : Nat) (t : Bool), q = [.bool t, J j] ∧ (t = true ↔ TwJ xs i j) ∧ j ≤ i ∧ Kn X w ∧ Stp [] w8 w, fun q _ => match q with | [_, j] => i - intNat j | _ => 0, fun w hw => ⟨0, t, rfl, by rw [twJ0]; exact ht, Nat.zero_le _, hw.kn, s16.trans0 hw.stp⟩, ?_⟩
    rintro _ _ w21 ⟨j, t, he, ht, hj, hk21, s21⟩
    simp only [List.cons.injEq, and_true] at he
    obtain ⟨rfl, rfl⟩ := he
    rw [ask_lssN]
    refine a_ifD (fun hlj => ?_) fun hgj => ?_
    · have step : ∀ {K : Value → Prop}, (∀ t' : Bool, (t' = true ↔ TwJ xs i (j + 1)) → K (.bool t')) → AskG [(.bool t, false)] (rIad X.P 24 vx (J i)) fun x23 => AskG [(.bool t, false)] (rLoad X w21 [] 27 x23) fun x24 => AskGF X [(.bool t, false)] 10 [x24] fun x25 => AskG [(.bool t, false)] (rIad X.P 24 vx (J j)) fun x26 => AskG [(.bool t, false)] (rLoad X w21 [] 27 x26) fun x27 => AskGF X [(.bool t, false)] 10 [x27] fun x28 => AskG [(.bool t, false)] (rBin X.P .eql 3 false false x25 x28) fun x29 => Ask (rPick (.bool t) (.bool true) x29) K := fun hK => by
        have x21 := x8.1.stp0 s21
        cases t
        · refine ld_S7g condsV1 hP hk21 x21 hlt (fun _ _ => List.not_mem_nil) ?_
          refine a_GF_on condsV1 (p7r hS rfl ?_)
          refine ld_S7g condsV1 hP hk21 x21 (by omega) (fun _ _ => List.not_mem_nil) ?_
          refine a_GF_on condsV1 (p7r hS rfl ?_)
          refine a_G_on condsV1 ?_
          rw [ask_eqlI, ask_pickF]
          refine hK _ ?_
          rw [twJ1, decide_eq_true_eq, cf_iff]
          exact ⟨.inr, fun h => h.elim (fun h => by have := ht.2 h; cases this) id⟩
        · iterate 2 refine a_G_off (condsV1_not (by decide)) fun _ => ?_
          refine a_GF_off (condsV1_not (by decide)) fun _ => ?_
          iterate 2 refine a_G_off (condsV1_not (by decide)) fun _ => ?_
          refine a_GF_off (condsV1_not (by decide)) fun _ => ?_
          refine a_G_off (condsV1_not (by decide)) fun _ => ?_
          rw [ask_pickT]
          exact hK true ⟨fun _ => twJ1.2 (.inl (ht.1 rfl)), fun _ => rfl⟩
      refine step fun t' ht' => ?_
      rw [ask_succ (by omega)]
      intro w2 hw2
      exact ⟨⟨j + 1, t', rfl, ht', hlj, hw2.kn, s21.trans0 hw2.stp⟩, by simp [intNat]; omega⟩
    · obtain rfl : j = i := by omega
      rw [ask_succ (by omega)]
      intro w2 hw2
      exact ⟨⟨j + 1, t, rfl, by rw [twI1]; exact ht, hlt, hw2.kn, s21.trans0 hw2.stp⟩, by simp [intNat]; omega⟩
  obtain rfl : i = xs.length := by omega
  rw [twI_all] at ht
  refine call_W hX hS (T := TA7f) (f := 22) rfl (xs, ys, ()) (fun w hw => ⟨⟨_, _, rfl, x8.stp0 (s16.trans0 hw.stp), _, _, rfl, y8.stp0 (s16.trans0 hw.stp), rfl⟩, lx, lys⟩) fun v19 u19 w19 h19 k19 s19 su19 hv => ?_
  obtain ⟨hv1, hv2⟩ := hv
  dsimp only at hv1 hv2
  cases t
  case true =>
    rw [hv1 (ht.1 rfl), ask_ext (v := .slice none 0 0) rfl, ask_ext (v := J 60) rfl]
    refine a_if (fun _ => ?_) fun h => by cases h
    rw [ask_eqlN, decide_eq_true rfl]
    refine a_G_on condsV1 (a_lenV hP ty7 ?_)
    refine a_G_on condsV1 ?_
    rw [ask_eqlN, decide_eq_true rfl, ask_pickT]
    exact hR _ _ _ _ fun _ _ => rfl
  have htw : ¬ Twice xs := fun h => by have := ht.2 h; cases this
  have hu := unlike_of htw
  obtain ⟨vq, rfl, oq⟩ := hv2 htw
  have lq : (interpA xs ys).length = xs.length := tabN_len _ _
  rw [ask_ext (v := vq) rfl, ask_ext (v := J 0) rfl]
  refine a_if (fun h => by cases h) fun _ => ?_
  rw [ask_neqN, decide_eq_true rfl]
  have slq := own_slAt oq
  refine a_G_on condsV1 (a_len hP ty7 slq ?_)
  refine a_G_on condsV1 (a_len hP ty7 x8.1 ?_)
  refine a_G_on condsV1 ?_
  rw [ask_neqN, decide_eq_true rfl, Bool.not_true, ask_pickF]
  refine a_if (fun h => by cases h) fun _ => ?_
  have x19 : Ls7 w19 vx xs := x8.stp0 (s16.trans0 su19)
  have y19 : Ls7 w19 vz ys := y8.stp0 (s16.trans0 su19)
  have q19 : Ls7 w19 vq (interpA xs ys) := ⟨by rw [lq]; exact slq, fun _ _ => trivial⟩
  have low : ∀ {v : Value} {l : List Int}, Ls7 w19 v l → ∀ {w w' : World} {a : Value} {n : Nat} {zs : List Value}, w.ownsRow w19.heap.size 27 1 a n zs → Ls7 w v l → Stp a.ownBlock.toList w w' → Ls7 w' v l := fun {v l} h0 {w w' a n zs} oa h1 hs => by
    rcases Nat.eq_zero_or_pos l.length with h | h
    · rcases h1.1 with hn | ⟨b, o, cap, e1, e2, e3⟩
      · exact ⟨.inl hn, h1.2⟩
      · refine ⟨.inr ⟨b, o, cap, e1, e2, fun i x hi => ?_⟩, h1.2⟩
        rw [List.length_eq_zero_iff.1 h] at hi
        simp at hi
    · exact h1.stp hs fun g hg hm => by
        have h5 := slAt_low h0.1 (by rw [flat_len encS7_len]; omega) g hg
        have h6 := (oa.lt g (by simpa using hm)).1
        omega
  obtain ⟨ats, hats⟩ : ∃ f : Nat → Int, f = fun j => sR.eval ys (xs.getD j 0) := ⟨_, rfl⟩
  refine ⟨fun q w => ∃ (i : Nat) (v b : Value), q = [b, v, J i] ∧ i ≤ xs.length ∧ Kn X w ∧ w19.heap.size ≤ w.heap.size ∧ Ls7 w vx xs ∧ Ls7 w vz ys ∧ Ls7 w vq (interpA xs ys) ∧ w.ownsRow w19.heap.size 27 1 v i ((tabN ats i).flatMap encS7), fun q _ => match q with | [_, _, i] => xs.length - intNat i | _ => 0, fun w hw => ⟨0, _, _, rfl, Nat.zero_le _, hw.kn, hw.size, x19.stp0 hw.stp, y19.stp0 hw.stp, q19.stp0 hw.stp, World.ownsRow_nil _ _ _ _⟩, ?_⟩
  rintro b30 va _ w30 ⟨i, _, _, he, hi, hk30, hz30, x30, y30, q30, oa⟩
  simp only [List.cons.injEq, and_true] at he
  obtain ⟨rfl, rfl, rfl⟩ := he
  refine a_len hP ty7 x30.1 ?_
  rw [ask_lssN]
  refine a_ifD (fun hlt => ?_) fun hgi2 => ?_
  · refine ld_S7 hP hk30 x30.1 hlt (fun _ _ => List.not_mem_nil) ?_
    refine call_W hX hS (T := TA7f) (f := 23) rfl (interpA xs ys, xs.getD i 0, ()) (fun w hw => ⟨⟨_, _, rfl, q30.stp0 hw.stp, _, _, rfl, rfl, rfl⟩, by show (interpA xs ys).length ≤ 1000; omega⟩) fun v35 u35 w35 h35 k35 s35 su35 hv => ?_
    dsimp only at hv
    subst hv
    refine p7r hS rfl ?_
    refine ld_S7 hP hk30 y30.1 (by omega) (fun _ _ => List.not_mem_nil) ?_
    refine p7r hS rfl ?_
    have same : sR.eval (interpA xs ys) (xs.getD i 0) % 7 = ys.getD i 0 % 7 := by
      rw [r_iff, evf, lq]
      exact interp_ev xs hu ys hlt
    rw [same, ask_neqI, decide_eq_true rfl]
    refine a_if (fun h => by cases h) fun _ => ?_
    refine ld_S7 hP k35 (x30.1.stp0 su35) hlt (fun _ _ => List.not_mem_nil) ?_
    refine call_W hX hS (T := TA7f) (f := 23) rfl (ys, xs.getD i 0, ()) (fun w hw => ⟨⟨_, _, rfl, y30.stp0 (su35.trans0 hw.stp), _, _, rfl, rfl, rfl⟩, by show ys.length ≤ 1000; omega⟩) fun v43 u43 w43 h43 k43 s43 su43 hv => ?_
    dsimp only at hv
    subst hv
    have t43 : Stp [] w30 w43 := su35.trans0 su43
    have oa43 := own_stp0 oa t43
    have z43 := t43.size
    refine a_push (k := 1) (encS7 (sR.eval ys (xs.getD i 0))).toArray hX hP ty7 (by decide) rfl (by decide) (by decide) (by decide) (by kernel_rfl) rfl (by simp [encS7, Value.oneCell']) rfl k19.sz0 (by omega) oa43 (by unfold maxLen; omega) (by omega) fun v2 w2 hk2 hs2 ho2 _ => ?_
    rw [ask_succ (by omega)]
    intro w3' hw3
    have z2 := hs2.size
    have z3 := hw3.size
    refine ⟨⟨i + 1, v2, _, rfl, hlt, hw3.kn, by omega, (low x19 oa43 (x30.stp0 t43) hs2).stp0 hw3.stp, (low y19 oa43 (y30.stp0 t43) hs2).stp0 hw3.stp, (low q19 oa43 (q30.stp0 t43) hs2).stp0 hw3.stp, ?_⟩, by simp [intNat]; omega⟩
    rw [tabN_succ, List.flatMap_append, hats]
    rw [hats] at ho2
    have := own_stp0 ho2 hw3.stp
    simpa using this
  obtain rfl : i = xs.length := by omega
  have la : (tabN ats xs.length).length = xs.length := tabN_len _ _
  refine call_W hX hS (T := TA7f) (f := 22) rfl (xs, tabN ats xs.length, ()) (fun w hw => ⟨⟨_, _, rfl, x30.stp0 hw.stp, _, _, rfl, ⟨by rw [la]; exact (own_slAt oa).stp0 hw.stp, fun _ _ => trivial⟩, rfl⟩, lx, la⟩) fun v33 u33 w33 h33 k33 s33 su33 hv => ?_
  obtain ⟨vb, rfl, ob⟩ := hv.2 htw
  dsimp only at ob
  have lb' : (interpA xs (tabN ats xs.length)).length = xs.length := tabN_len _ _
  rw [ask_ext (v := vb) rfl, ask_ext (v := J 0) rfl, ask_neqN, decide_eq_true rfl]
  have slb := own_slAt ob
  refine a_G_on condsV1 (a_len hP ty7 slb ?_)
  have y33 : Ls7 w33 vz ys := y30.stp0 su33
  refine a_G_on condsV1 (a_len hP ty7 y33.1 ?_)
  refine a_G_on condsV1 ?_
  rw [ask_neqN, lys, decide_eq_true rfl, Bool.not_true, ask_pickF]
  refine a_if (fun h => by cases h) fun _ => ?_
  refine ⟨fun q w => ∃ i, q = [J i] ∧ i ≤ xs.length ∧ Kn X w ∧ Stp [] w33 w, fun q _ => match q with | [i] => xs.length - intNat i | _ => 0, fun w hw => ⟨0, rfl, Nat.zero_le _, hw.kn, hw.stp⟩, ?_⟩
  rintro _ w42 ⟨i, he, hi2, hk42, s42⟩
  simp only [List.cons.injEq, and_true] at he
  subst he
  refine a_len hP ty7 (slb.stp0 s42) ?_
  rw [ask_lssN]
  refine a_ifD (fun hlt => ?_) fun _ => ?_
  · refine ld_S7 (l := interpA xs (tabN ats xs.length)) hP hk42 (by rw [lb']; exact slb.stp0 s42) (by omega) (fun _ _ => List.not_mem_nil) ?_
    refine p7r hS rfl ?_
    refine ld_S7 hP hk42 (y33.1.stp0 s42) (by omega) (fun _ _ => List.not_mem_nil) ?_
    refine p7r hS rfl ?_
    have same : (interpA xs (tabN ats xs.length)).getD i 0 % 7 = ys.getD i 0 % 7 := by
      rw [cf_iff]
      refine same_poly hu (fun j hj => ?_) i hlt
      rw [interp_ev xs hu _ hj, cf_tab _ hj, hats]
      dsimp only
      rw [evf, lys]
      rfl
    rw [same, ask_neqI, decide_eq_true rfl]
    refine a_if (fun h => by cases h) fun _ => ?_
    rw [ask_succ (by omega)]
    intro w2 hw2
    exact ⟨⟨i + 1, rfl, hlt, hw2.kn, s42.trans0 hw2.stp⟩, by simp [intNat]; omega⟩
  · exact hR _ _ _ _ fun _ _ => rfl
#print axioms keepsField
end Go.Vc
