/-
  Lists over the document's scalars: E.Encode.
-/
import Derived.Test.YtpfidanjeacihaaGreatDoorDFr10
namespace Go.Vc
open Go Go.Proofs Go.RowKit

def frL : List Nat := [102, 114, 101, 101]
def bytesS (n : Nat) : List Nat := (List.range 32).map (bt n)
theorem encB_bytes (n : Nat) : encB n = (bytesS n).map B := by rw [encB_range, bytesS, List.map_map]; rfl
theorem bytesS_len (n : Nat) : (bytesS n).length = 32 := by simp [bytesS]
theorem bytesS_lt (n : Nat) : ∀ x ∈ bytesS n, x < 256 := fun x hx => by
  obtain ⟨i, _, rfl⟩ := List.mem_map.1 hx; exact bt_lt n i
/-- The bytes that a list's encoding hashes. -/
def encF (l : List Nat) : List Nat := frL ++ l.flatMap bytesS
theorem encF_len (l : List Nat) : (encF l).length = 4 + l.length * 32 := by
  unfold encF
  rw [List.length_append]
  congr 1
  induction l with
  | nil => rfl
  | cons a r ih => rw [List.flatMap_cons, List.length_append, bytesS_len, ih, List.length_cons]; omega
theorem encF_lt (l : List Nat) : ∀ x ∈ encF l, x < 256 := fun x hx => by
  rcases List.mem_append.1 hx with h | h
  · simp [frL] at h; omega
  · obtain ⟨n, _, h⟩ := List.mem_flatMap.1 h
    exact bytesS_lt n x h
theorem encF_take (l : List Nat) (j : Nat) (h : j < l.length) : encF (l.take (j + 1)) = encF (l.take j) ++ bytesS l[j] := by
  unfold encF
  rw [List.take_succ_eq_append_getElem h, List.flatMap_append, List.append_assoc]
  simp
theorem uU8' : Tryz.prog.underlying 5 = some (.int .u8) := by kernel_rfl
theorem slAt_rowF {w : World} {b o n cap : Nat} {cells : Array Value} {ty : TypeId} {fr : Nat × Nat} {xs : List Value} (h : w.heap[b]? = some (.cells cells ty fr)) (hn : n ≤ cap) (hc : cap ≤ maxLen) (hx : ∀ (i : Nat) (x : Value), xs[i]? = some x → cells[o + i]? = some x) : SlAt w (.slice (some ⟨b, o, none⟩) n cap) n xs :=
  .inr ⟨b, o, cap, rfl, ⟨hn, hc⟩, fun i x hi => by simp [World.cell?, h, hx i x hi]⟩
theorem own_rowF {w : World} {base e size n cap g : Nat} {xs : List Value} (h : w.ownsRow base e size (.slice (some ⟨g, 0, none⟩) n cap) n xs) : ∃ cur : Array Value, w.heap[g]? = some (.cells cur e (0, 0)) ∧ base ≤ g ∧ ∀ (i : Nat) (x : Value), xs[i]? = some x → cur[i]? = some x := by
  have hs := own_slAt h
  rcases h.2 with ⟨hv, _⟩ | ⟨g', cap', cur, hv, hbg, hg, _⟩
  · cases hv
  · cases hv
    refine ⟨cur, hg, hbg, fun i x hx => ?_⟩
    rcases hs with ⟨hv, _⟩ | ⟨b, o, c, hv, _, hc⟩
    · cases hv
    · cases hv
      have := hc i x hx
      simpa [World.cell?, hg] using this
/-- The first half of a hash. -/
def half (m : List Nat) : Value := .agg (((sha m).take 32).map B).toArray
def cREncF : Contract := fnW cEl (fun a _ => a.length ≤ mx) (fun a _ v _ => v = half (encF a))
def Tre' : Table := (T0.add 60 cRsum).add 59 cREncS
theorem keepTre' : AllKeep Tryz.prog GH Tre' := (keepH0.add keepsRsum).add (keepsREnc.inG gGT)
theorem agg32F : agg? Tryz.prog 27 = some true := by kernel_rfl
theorem sz32F : sz Tryz.prog 27 = some 32 := by kernel_rfl
theorem ze32F : (Tryz.prog.info? 27).bind (·.zero) = some (BA (List.replicate 32 0)) := by kernel_rfl
theorem ar64 : Tryz.prog.underlying 116 = some (.array 64 5) := by kernel_rfl
theorem a_slcPHF {X : Ctx} {P : Program} {K : Value → Prop} {t n e b o hi : Nat} (hP : X.P = P) (hu : P.underlying t = some (.array n e)) (hs : sz P e = some 1) (h2 : hi ≤ n) (h3 : 0 < n) (hK : K (.slice (some ⟨b, o, none⟩) hi n)) : Ask (rSlc X.P t (.pointer (some ⟨b, o, none⟩)) none (some (J hi)) none) K := by
  subst hP
  have e : Ask (rSlc X.P t (.pointer (some ⟨b, o, none⟩)) none (some (J hi)) none) K = K (.slice (some ⟨b, o, none⟩) hi n) := ask_eq (runs_iff fun w => by
    have ht : X.P.underlying t = some (.array (X.P.arrayLen t) (X.P.elem t)) := by simp [Program.arrayLen, Program.elem, hu]
    have hl : X.P.arrayLen t = n := by simp [Program.arrayLen, hu]
    have hel : X.P.elem t = e := by simp [Program.elem, hu]
    rw [run_sliceAt_array_h w t ⟨b, o, none⟩ ht .i64 hi (by omega) (by rw [hl]; omega), hl, hel, run_sz hs w]
    have hne : ¬ n = 0 := by omega
    simp [slicedAt, hne, add_none])
  rw [e]; exact hK
theorem splice32 {l : List Nat} (hl : l.length = 32) : splice (BA (List.replicate 32 0)).cells 0 ((l.map B).take 32) = (l.map B).toArray := by
  unfold splice
  rw [List.take_of_length_le (l := l.map B) (by simp [hl]), List.drop_of_length_le (by simp [hl, BA, Value.cells])]
  simp
theorem arrB : Tryz.prog.underlying 27 = some (.array 32 5) := by kernel_rfl
def ann21 : Ann := ⟨[(8, ([3, 4], []))], [58, 59], 70, [(60, false)], [1], none, [7], []⟩
def kb21_0 (b0 b1 : Nat) (x2 : Value) : List KB := [⟨b0, true, 40, (aggArr x2)⟩, ⟨b1, true, 27, #[(.int .u8 0), (.int .u8 0), (.int .u8 0), (.int .u8 0), (.int .u8 0), (.int .u8 0), (.int .u8 0), (.int .u8 0), (.int .u8 0), (.int .u8 0), (.int .u8 0), (.int .u8 0), (.int .u8 0), (.int .u8 0), (.int .u8 0), (.int .u8 0), (.int .u8 0), (.int .u8 0), (.int .u8 0), (.int .u8 0), (.int .u8 0), (.int .u8 0), (.int .u8 0), (.int .u8 0), (.int .u8 0), (.int .u8 0), (.int .u8 0), (.int .u8 0), (.int .u8 0), (.int .u8 0), (.int .u8 0), (.int .u8 0)]⟩]
def kb21_1 (b0 b1 b2 : Nat) (x2 x18 : Value) : List KB := [⟨b0, true, 40, (aggArr x2)⟩, ⟨b1, true, 27, #[(.int .u8 0), (.int .u8 0), (.int .u8 0), (.int .u8 0), (.int .u8 0), (.int .u8 0), (.int .u8 0), (.int .u8 0), (.int .u8 0), (.int .u8 0), (.int .u8 0), (.int .u8 0), (.int .u8 0), (.int .u8 0), (.int .u8 0), (.int .u8 0), (.int .u8 0), (.int .u8 0), (.int .u8 0), (.int .u8 0), (.int .u8 0), (.int .u8 0), (.int .u8 0), (.int .u8 0), (.int .u8 0), (.int .u8 0), (.int .u8 0), (.int .u8 0), (.int .u8 0), (.int .u8 0), (.int .u8 0), (.int .u8 0)]⟩, ⟨b2, true, 27, (aggArr x18)⟩]
def kb21_2 (b0 b1 b2 : Nat) (x2 x16 : Value) : List KB := [⟨b0, true, 40, (aggArr x2)⟩, ⟨b1, true, 27, #[(.int .u8 0), (.int .u8 0), (.int .u8 0), (.int .u8 0), (.int .u8 0), (.int .u8 0), (.int .u8 0), (.int .u8 0), (.int .u8 0), (.int .u8 0), (.int .u8 0), (.int .u8 0), (.int .u8 0), (.int .u8 0), (.int .u8 0), (.int .u8 0), (.int .u8 0), (.int .u8 0), (.int .u8 0), (.int .u8 0), (.int .u8 0), (.int .u8 0), (.int .u8 0), (.int .u8 0), (.int .u8 0), (.int .u8 0), (.int .u8 0), (.int .u8 0), (.int .u8 0), (.int .u8 0), (.int .u8 0), (.int .u8 0)]⟩, ⟨b2, true, 116, (aggArr x16)⟩]
theorem vc21 (X : Ctx) (β : Nat → Nat) (x0 : Value) : (run Tryz.prog ann21 21 [.x (.v 0)] [] [] 2).den X (env0 [x0] X.w0) 2 β 0 (fun _ _ _ => False) = (
  Ask (rAgg 26 x0) fun x2 =>
  AskNew X.w0 fun b0 =>
  AskNew X.w0 fun b1 =>
  Ask (rSel (aggArr x2) 0 1 false) fun x3 =>
  Ask (rBin X.P .eql 3 false true x3 (J 1)) fun x4 =>
  (∃ t, x4 = .bool t) ∧ (x4 = .bool true →
    Ask (rSel (aggArr x2) 1 20 true) fun x5 =>
    AskF X 58 [x5] fun x6 =>
    Ask (rAgg 32 x6) fun x7 =>
    Ret X X.w0 [b1] [] x7) ∧ (x4 = .bool false →
    Ask (rBin X.P .eql 3 false true x3 (J 2)) fun x5 =>
    (∃ t, x5 = .bool t) ∧ (x5 = .bool true →
      Ask (rSel (aggArr x2) 21 4 true) fun x6 =>
      AskF X 59 [x6] fun x7 =>
      Ask (rAgg 32 x7) fun x8 =>
      Ret X X.w0 [b1] [] x8) ∧ (x5 = .bool false →
      AskO X X.w0 [] (kb21_0 b0 b1 x2) false (Go.Op.buildSlice 114 4 #[(0, Go.Operand.const (Go.Value.int Go.IntKind.u8 102)), (1, Go.Operand.const (Go.Value.int Go.IntKind.u8 114)), (2, Go.Operand.const (Go.Value.int Go.IntKind.u8 101)), (3, Go.Operand.const (Go.Value.int Go.IntKind.u8 101))]) 114 [] fun x6 w6 =>
      AskO X w6 [] (kb21_0 b0 b1 x2) true (Go.Op.convert 114 114 (Go.Operand.tmp 20)) 114 [(20, x6)] fun x7 w7 =>
      ∃ (I0 : List Value → World → Prop) (μ0 : List Value → World → Nat), (∀ w, KnownV X w7 [] (kb21_0 b0 b1 x2) w → I0 [x7, (J 0)] w) ∧ ∀ x8 x9 w10, I0 [x8, x9] w10 →
        Ask (rSel (aggArr x2) 25 1 false) fun x11 =>
        Ask (rLen X.P 38 x11) fun x12 =>
        Ask (rBin X.P .lss 3 false false x9 x12) fun x13 =>
        (∃ t, x13 = .bool t) ∧ (x13 = .bool true →
          Ask (rSel (aggArr x2) 25 1 false) fun x14 =>
          Ask (rIad X.P 38 x14 x9) fun x15 =>
          Ask (rLoad X w10 [] 37 x15) fun x16 =>
          AskF X 59 [x16] fun x17 =>
          AskNew w10 fun b2 =>
          Ask (rAgg 32 x17) fun x18 =>
          Ask (rSlc X.P 27 (.pointer (some ⟨b2, 0, none⟩)) none none none) fun x19 =>
          AskO X w10 [b2] (kb21_1 b0 b1 b2 x2 x18) true (appOp (.tmp 35) (.tmp 36) 114) 114 [(35, x8), (36, x19)] fun x20 w20 =>
          Ask (rBin X.P .add 3 false true x9 (J 1)) fun x21 =>
          Again X w20 [] [] fun w => I0 [x20, x21] w ∧ μ0 [x20, x21] w < μ0 [x8, x9] w10) ∧ (x13 = .bool false →
          AskO X w10 [] (kb21_0 b0 b1 x2) false (Go.Op.buildSlice 115 1 #[(0, Go.Operand.tmp 38)]) 115 [(38, x8)] fun x14 w14 =>
          AskW X w14 [] (kb21_0 b0 b1 x2) false 60 [x14] fun x15 w15 =>
          AskNew w15 fun b2 =>
          Ask (rAgg 64 x15) fun x16 =>
          AskO X w15 [b2] (kb21_2 b0 b1 b2 x2 x16) false (Go.Op.alloc 27) 0 [] fun x17 w17 =>
          Ask (rSlc X.P 27 x17 none none none) fun x18 =>
          Ask (rSlc X.P 116 (.pointer (some ⟨b2, 0, none⟩)) none (some (J 32)) none) fun x19 =>
          AskO X w17 [] (kb21_2 b0 b1 b2 x2 x16) true (Go.Op.call { callee := Go.Callee.builtin Go.Builtin.copy, args := #[Go.Operand.tmp 41, Go.Operand.tmp 42], argTypes := #[114, 114] }) 3 [(41, x18), (42, x19)] fun _ w20 =>
          Ask (rLoad X w20 [] 27 x17) fun x21 =>
          Ask (rAgg 32 x21) fun x22 =>
          Ret X w20 [b1] [] x22)))) := by kernel_rfl
theorem keepsREncF : Keeps1 Tryz.prog GH 21 cREncF := by
  refine keepsW (T := Tre') (A := ann21) hMix keepTre' hGH (calls_of (by kernel_rfl)) (callsW_of (by kernel_rfl)) fun args l w0 hrd hpre hg => ?_
  obtain ⟨x, rfl, hl⟩ := hrd
  simp only [mx] at hpre
  replace hl : Ls encS okS w0 x l := hl
  refine ⟨[.x (.v 0)], [], [], 2, env0 [EL x] w0, fun b => b, 0, rfl, rfl, fun X hX => mem_none hX rfl, fun X hP hS hw hX hR => ?_⟩
  subst hw; try dsimp only at hR
  rw [vc21 X]
  refine a_agg (cs := encEL x) rfl (one_encEL (slAt_one hl.1)) ?_
  intro b0 hb0 b1 hb1
  refine a_sel1 rfl ?_
  rw [ask_eqlN]
  refine a_ifD (fun h => by omega) fun _ => ?_
  rw [ask_eqlN]
  refine a_ifD (fun h => by omega) fun _ => ?_
  refine a_build (frL.map B).toArray hX hP tyB (by decide) (by decide) (by kernel_rfl) rfl (by simp only [maxLen]; omega) fun g w4 w4' hw4 k4 s4 su4 o4 => ?_
  obtain ⟨cur, hrow, hgb, hcur⟩ := own_rowF o4
  have lo0 : b0 < w4.heap.size := hw4.low (by simp [kb21_0])
  have lo1 : b1 < w4.heap.size := hw4.low (by simp [kb21_0])
  refine a_mark rfl hX.n hP tyB.sl uU8' rfl hrow List.not_mem_nil (hX.n g (Nat.le_trans hw4.sz0 hgb)) (by simp [kb21_0]; omega) fun w5 w5' hw5 k5 s5 su5 row5 => ?_
  have hlb : SlAt w5' (.slice (some ⟨g, 0, none⟩) 4 4) 4 (frL.map B) := slAt_rowF row5 (Nat.le_refl _) (by decide) fun i x hx => by rw [Nat.zero_add]; exact hcur i x (by simpa using hx)
  have hg5 : g < w5'.heap.size := (Array.getElem?_eq_some_iff.1 row5).1
  refine ⟨fun a w => ∃ (j : Nat) (o : Value), a = [o, J j] ∧ j ≤ l.length ∧ Kn X w ∧ w5'.heap.size ≤ w.heap.size ∧ ((j = 0 ∧ o = .slice (some ⟨g, 0, none⟩) 4 4 ∧ SlAt w o 4 (frL.map B)) ∨ w.ownsRow w5'.heap.size 5 1 o (4 + j * 32) ((encF (l.take j)).map B)), fun a _ => match a with | [_, i] => l.length - intNat i | _ => 0,
    fun w2 hw2 => ⟨0, _, rfl, Nat.zero_le _, hw2.kn, hw2.size, .inl ⟨rfl, rfl, hlb.stp0 hw2.stp⟩⟩, ?_⟩
  rintro o _ w2 ⟨j, _, he, hj, k2, hz2, ho⟩
  simp only [List.cons.injEq, and_true] at he
  obtain ⟨rfl, rfl⟩ := he
  refine a_sel1 rfl (a_len hP tyR hl.1 ?_)
  rw [ask_lssN]
  refine a_ifD (fun hlt => ?_) fun hge => ?_
  · refine a_sel1 rfl ?_
    refine ld_R hP k2 (hl.1.stp0 (k2.stp0 hX)) rfl rfl hlt (fun _ _ => List.not_mem_nil) ?_
    refine call_PE hS (T := Tre') (f := 59) rfl l[j] (hl.2 _ (List.getElem_mem hlt)) ?_
    intro b2 hb2
    rw [ask_aggB]
    refine a_slcP0 hP arrB szB1 (by decide) ?_
    have hx2 : ∀ w, KnownV X w2 [b2] (kb21_1 b0 b1 b2 (EL x) (BS l[j])) w → SlAt w (.slice (some ⟨b2, 0, none⟩) 32 32) 32 ((bytesS l[j]).map B) := fun w hw => by
      have h := (hw.blk ⟨b2, true, 27, aggArr (BS l[j])⟩ (by simp [kb21_1])).1
      rw [if_pos rfl] at h
      refine slAt_rowF h (Nat.le_refl _) (by decide) fun i x hx => ?_
      rw [Nat.zero_add, ← encB_bytes] at *
      simpa [aggArr, BS] using hx
    have fin : ∀ (v' : Value) (w' : World), Kn X w' → w2.heap.size ≤ w'.heap.size → w'.ownsRow w5'.heap.size 5 1 v' (4 + (j + 1) * 32) ((encF (l.take (j + 1))).map B) →
        Ask (rBin X.P .add 3 false true (J j) (J 1)) fun x21 => Again X w' [] [] fun w => (∃ (j : Nat) (o : Value), [v', x21] = [o, J j] ∧ j ≤ l.length ∧ Kn X w ∧ w5'.heap.size ≤ w.heap.size ∧ ((j = 0 ∧ o = .slice (some ⟨g, 0, none⟩) 4 4 ∧ SlAt w o 4 (frL.map B)) ∨ w.ownsRow w5'.heap.size 5 1 o (4 + j * 32) ((encF (l.take j)).map B))) ∧ (match [v', x21] with | [_, i] => l.length - intNat i | _ => 0) < (match [o, J j] with | [_, i] => l.length - intNat i | _ => 0) := fun v' w' kw hz hw' => by
      rw [ask_succ (by omega)]
      intro w3 hw3
      exact ⟨⟨j + 1, v', rfl, hlt, hw3.kn, by have := hw3.size; omega, .inr (own_stp0 hw' hw3.stp)⟩, by simp [intNat]; omega⟩
    have e1 : ((encF (l.take j)).map B) ++ (bytesS l[j]).map B = (encF (l.take (j + 1))).map B := by rw [← List.map_append, ← encF_take l j hlt]
    rcases ho with ⟨rfl, rfl, ho⟩ | ho
    · refine a_appGrow hX hP tyB (g := g) (cap := 4) (n := 4) (m := 32) rfl rfl rfl (fun w hw => ho.stp hw.stp fun q hq => by cases hq; simp; omega) rfl hx2 (by simp [bytesS_len]) (by decide) (by decide) (by decide) (by decide) fun v' w w' hw kw hs hsu hown => ?_
      have e0 : frL.map B ++ (bytesS l[0]).map B = (encF (l.take (0 + 1))).map B := by rw [← e1]; simp [encF]
      rw [e0] at hown
      exact fin v' w' kw hsu.size (own_mono hown (Nat.le_trans hz2 hw.size))
    · refine a_append hX hP tyB (v := o) (m := 32) rfl rfl rfl (by decide) (Nat.le_trans k4.sz0 su5.size) hz2 ho hx2 (by simp [bytesS_len]) (oneMapB _) (fun q hq => by have := ho.lt q hq; simp; omega) (fun _ _ q hq => by have := ho.lt q hq; have := su5.size; have := s4.size; simp [kb21_1]; omega) (by simp only [maxLen]; omega) (by omega) fun v' w w' hw kw hs hsu hown _ => ?_
      rw [e1, show 4 + j * 32 + 32 = 4 + (j + 1) * 32 by omega] at hown
      exact fin v' w' kw hsu.size hown
  · obtain rfl : j = l.length := by omega
    have hbs : Bs w2 o (encF l) := by
      rcases ho with ⟨h0, rfl, ho⟩ | ho
      · have e : encF l = frL := by rw [List.eq_nil_of_length_eq_zero h0]; rfl
        rw [e]
        exact ⟨ho, by decide⟩
      · rw [List.take_length] at ho
        exact (own_bs ho (encF_lt l)).1
    obtain ⟨ax, cx, rfl, _⟩ := slAt_form hbs.at_
    refine a_build #[.slice ax (encF l).length cx] hX hP tyBB (by decide) (by decide) (by kernel_rfl) rfl (by simp only [maxLen]; omega) fun g2 w9 w9' hw9 k9 s9 su9 o9 => ?_
    have hs9 := own_slAt o9
    refine call_W hX hS (T := Tre') (f := 60) rfl ([encF l], ()) (fun w hw => ⟨⟨_, _, rfl, bss_rd.2 ⟨_, hs9.stp0 hw.stp, rfl, fun i y a h1 h2 => ?_⟩, rfl⟩, by simp [encF_len, mxB]; omega⟩) fun v w10 w10' hw10 k10 s10 su10 hv => ?_
    · match i, h1, h2 with
      | 0, h1, h2 =>
        simp at h1 h2
        subst h1 h2
        exact hbs.stp0 (by simpa using su9.trans hw.stp)
    obtain rfl := hv
    dsimp only
    rw [show [encF l].flatten = encF l by simp]
    intro b2 hb2
    refine a_aggB (sha_len _) ?_
    refine a_alloc hX.n hP ze32F fun r w11 w11' hw11 k11 s11 su11 hr row11 sz11 => ?_
    refine a_slcP0 hP arrB szB1 (by decide) ?_
    refine a_slcPHF hP ar64 szB1 (by decide) (by decide) ?_
    have z0 := s4.size
    have z5 := su5.size
    have z9 := su9.size
    have z10 := su10.size
    have zz := hw11.low (b := b2) (by simp [kb21_2])
    refine a_copy (n := 32) (m := 32) (xs := ((sha (encF l)).take 32).map B) hX.n hP tyB.sl szB1 rfl rfl (fun w hw => ?_) (by simp [sha_len]) rfl (oneMapB _) row11 List.not_mem_nil (hX.n _ (by have := hw11.sz0; omega)) (by simp [kb21_2]; omega) (by simp [BA, Value.cells]) (by decide) fun w12 w13 hw12 k13 s13 su13 row13 sz13 => ?_
    · have h := (hw.blk ⟨b2, true, 116, aggArr (BA (sha (encF l)))⟩ (by simp [kb21_2])).1
      rw [if_pos rfl] at h
      refine slAt_rowF h (by decide) (by decide) fun i x hx => ?_
      rw [Nat.zero_add]
      simp only [List.getElem?_map, List.getElem?_take] at hx
      split at hx
      · simpa [aggArr, BA] using hx
      · simp at hx
    refine a_ldPA (cs := ((sha (encF l)).take 32).map B) k13 (by rw [hP]; exact agg32F) (by rw [hP]; simp [sha_len]; exact sz32F) row13 List.not_mem_nil (fun i y h => ?_) ?_
    · rw [splice32 (by simp [sha_len]), Nat.zero_add]
      simpa using h
    have hl32 : (((sha (encF l)).take 32).map B).length = 32 := by simp [sha_len]
    rw [show Ask (rAgg 32 (Value.agg (((sha (encF l)).take 32).map B).toArray)) = Ask (rAgg (((sha (encF l)).take 32).map B).length (Value.agg (((sha (encF l)).take 32).map B).toArray)) by rw [hl32]]
    refine a_agg rfl (List.all_eq_true.2 (oneMapB _)) ?_
    exact hR _ _ _ _ fun w hw => rfl
#print axioms keepsREncF
end Go.Vc
