/-
  Lists over the scalars: Free.Encode.
-/
import Derived.Test.YtpfidanjeacihaaGreatDoorDFr12
namespace Go.Vc
open Go Go.Proofs Go.RowKit

/-- Bytes in a row that is no row of slices. -/
structure Pt (w : World) (x : Value) (a : List Nat) : Prop where
  lt : ∀ y ∈ a, y < 256
  at_ : ∃ g cells ty fr, x = .slice (some ⟨g, 0, none⟩) a.length a.length ∧ a.length ≤ maxLen ∧ w.heap[g]? = some (.cells cells ty fr) ∧ ty ≠ 114 ∧ ∀ (i : Nat) (y : Value), (a.map B)[i]? = some y → cells[i]? = some y
theorem Pt.bs {w : World} {x : Value} {a : List Nat} (h : Pt w x a) : Bs w x a := by
  obtain ⟨g, cells, ty, fr, rfl, hm, hr, _, hc⟩ := h.at_
  exact ⟨slAt_rowF hr (Nat.le_refl _) hm fun i y hy => by rw [Nat.zero_add]; exact hc i y hy, h.lt⟩
theorem Pt.stp {w w' : World} {x : Value} {a : List Nat} {ex : List Nat} (h : Pt w x a) (s : Stp ex w w') (hx : ∀ (g : Nat) (cells : Array Value) (ty : TypeId) (fr : Nat × Nat), w.heap[g]? = some (.cells cells ty fr) → ty ≠ 114 → g ∉ ex) : Pt w' x a := by
  obtain ⟨g, cells, ty, fr, rfl, hm, hr, ht, hc⟩ := h.at_
  exact ⟨h.lt, g, cells, ty, fr, rfl, hm, by rw [s.past g (Array.getElem?_eq_some_iff.1 hr).1 (hx g cells ty fr hr ht)]; exact hr, ht, hc⟩
theorem Pt.stpN {w w' : World} {x : Value} {a : List Nat} {ex : List Nat} (h : Pt w x a) (s : Stp ex w w') (hx : ∀ b ∈ ex, w.heap.size ≤ b) : Pt w' x a :=
  h.stp s fun g _ _ _ hr _ hm => by have := (Array.getElem?_eq_some_iff.1 hr).1; have := hx g hm; omega
theorem own_ty {w : World} {base n : Nat} {v : Value} {xs : List Value} (h : w.ownsRow base 114 1 v n xs) (g : Nat) (cells : Array Value) (ty : TypeId) (fr : Nat × Nat) (hr : w.heap[g]? = some (.cells cells ty fr)) (ht : ty ≠ 114) : g ∉ v.ownBlock.toList := by
  intro hm
  rcases h.2 with ⟨rfl, _⟩ | ⟨g', cap, cur, rfl, _, hg', _⟩
  · simp [Value.ownBlock] at hm
  · simp [Value.ownBlock] at hm
    subst hm
    rw [hg'] at hr
    simp only [Option.some.injEq, Obj.cells.injEq] at hr
    exact ht hr.2.1.symm
def partsF (l : List Nat) : List (List Nat) := frL :: l.map bytesS
theorem partsF_flat (l : List Nat) : (partsF l).flatten = encF l := by simp [partsF, encF, List.flatMap]
theorem partsF_len (l : List Nat) : (partsF l).length = 1 + l.length := by simp [partsF]; omega
theorem partsF_take (l : List Nat) (j : Nat) (h : j < l.length) : partsF (l.take (j + 1)) = partsF (l.take j) ++ [bytesS l[j]] := by
  unfold partsF
  rw [List.take_succ_eq_append_getElem h, List.map_append]
  rfl
theorem spliceL {l : List Nat} {n : Nat} (hl : l.length = n) : splice (BA (List.replicate n 0)).cells 0 (l.map B) = (l.map B).toArray := by
  unfold splice
  rw [List.drop_of_length_le (by simp [hl, BA, Value.cells])]
  simp
theorem sz64 : sz Tryz.prog 117 = some 64 := by kernel_rfl
theorem ze64 : (Tryz.prog.info? 117).bind (·.zero) = some (BA (List.replicate 64 0)) := by kernel_rfl
theorem ar64B : Tryz.prog.underlying 117 = some (.array 64 5) := by kernel_rfl
def cFEnc : Contract := fnW cFr (fun a _ => a.length ≤ mx) (fun a _ v _ => v = half (encF (trim (a.map Fk.least.op))))
def Tfe : Table := ((T0.add 40 cEach).add 57 cSum).add 56 cEncS
theorem keepTfe : AllKeep Tryz.prog GH Tfe := ((keepH0.add (keepsEach.inG gGT)).add keepsSum).add (keepsEnc.inG gGT)
def ann20 : Ann := ⟨[(3, ([3, 15], []))], [56], 70, [(40, false), (57, false)], [5], none, [6, 7], []⟩
def kb20_0 (b0 b1 : Nat) (x3 : Value) : List KB := [⟨b0, true, 30, #[x3]⟩, ⟨b1, true, 27, #[(.int .u8 0), (.int .u8 0), (.int .u8 0), (.int .u8 0), (.int .u8 0), (.int .u8 0), (.int .u8 0), (.int .u8 0), (.int .u8 0), (.int .u8 0), (.int .u8 0), (.int .u8 0), (.int .u8 0), (.int .u8 0), (.int .u8 0), (.int .u8 0), (.int .u8 0), (.int .u8 0), (.int .u8 0), (.int .u8 0), (.int .u8 0), (.int .u8 0), (.int .u8 0), (.int .u8 0), (.int .u8 0), (.int .u8 0), (.int .u8 0), (.int .u8 0), (.int .u8 0), (.int .u8 0), (.int .u8 0), (.int .u8 0)]⟩]
def kb20_1 (b0 b1 b2 : Nat) (x3 x17 : Value) : List KB := [⟨b0, true, 30, #[x3]⟩, ⟨b1, true, 27, #[(.int .u8 0), (.int .u8 0), (.int .u8 0), (.int .u8 0), (.int .u8 0), (.int .u8 0), (.int .u8 0), (.int .u8 0), (.int .u8 0), (.int .u8 0), (.int .u8 0), (.int .u8 0), (.int .u8 0), (.int .u8 0), (.int .u8 0), (.int .u8 0), (.int .u8 0), (.int .u8 0), (.int .u8 0), (.int .u8 0), (.int .u8 0), (.int .u8 0), (.int .u8 0), (.int .u8 0), (.int .u8 0), (.int .u8 0), (.int .u8 0), (.int .u8 0), (.int .u8 0), (.int .u8 0), (.int .u8 0), (.int .u8 0)]⟩, ⟨b2, true, 25, (aggArr x17)⟩]
theorem vc20 (X : Ctx) (β : Nat → Nat) (x0 : Value) : (run Tryz.prog ann20 20 [.x (.v 0)] [] [] 2).den X (env0 [x0] X.w0) 2 β 0 (fun _ _ _ => False) = (
  Ask (rAgg 1 x0) fun x2 =>
  Ask (rSel (aggArr x2) 0 1 false) fun x3 =>
  AskNew X.w0 fun b0 =>
  AskNew X.w0 fun b1 =>
  AskO X X.w0 [] (kb20_0 b0 b1 x3) false (Go.Op.buildSlice 114 4 #[(0, Go.Operand.const (Go.Value.int Go.IntKind.u8 102)), (1, Go.Operand.const (Go.Value.int Go.IntKind.u8 114)), (2, Go.Operand.const (Go.Value.int Go.IntKind.u8 101)), (3, Go.Operand.const (Go.Value.int Go.IntKind.u8 101))]) 114 [] fun x4 w4 =>
  AskO X w4 [] (kb20_0 b0 b1 x3) true (Go.Op.convert 114 114 (Go.Operand.tmp 8)) 114 [(8, x4)] fun x5 w5 =>
  AskO X w5 [] (kb20_0 b0 b1 x3) false (Go.Op.buildSlice 115 1 #[(0, Go.Operand.tmp 9)]) 115 [(9, x5)] fun x6 w6 =>
  AskW X w6 [] (kb20_0 b0 b1 x3) false 40 [(.agg #[x3]), (.func (.func 37) #[] #[])] fun x7 w7 =>
  Ask (rFld X.P 30 x7 0) fun x8 =>
  Ask (rLen X.P 22 x8) fun x9 =>
  ∃ (I0 : List Value → World → Prop) (μ0 : List Value → World → Nat), (∀ w, KnownV X w7 [] (kb20_0 b0 b1 x3) w → I0 [x6, (J 0)] w) ∧ ∀ x10 x11 w12, I0 [x10, x11] w12 →
    Ask (rBin X.P .lss 3 false false x11 x9) fun x13 =>
    (∃ t, x13 = .bool t) ∧ (x13 = .bool true →
      Ask (rIad X.P 22 x8 x11) fun x14 =>
      Ask (rLoad X w12 [] 25 x14) fun x15 =>
      Ask (rAgg 4 (.agg #[(U 0), (U 0), (U 0), (U 0)])) fun _ =>
      AskNew w12 fun b2 =>
      Ask (rAgg 4 x15) fun x17 =>
      AskF X 56 [x17] fun x18 =>
      AskO X w12 [b2] (kb20_1 b0 b1 b2 x3 x17) false (Go.Op.alloc 27) 0 [] fun x19 w19 =>
      AskO X w19 [] (kb20_1 b0 b1 b2 x3 x17) true (Go.Op.store 27 (Go.Operand.tmp 6) (Go.Operand.tmp 20)) 0 [(6, x19), (20, x18)] fun _ w20 =>
      Ask (rSlc X.P 27 x19 none none none) fun x21 =>
      AskO X w20 [] (kb20_1 b0 b1 b2 x3 x17) false (Go.Op.buildSlice 115 1 #[(0, Go.Operand.tmp 22)]) 115 [(22, x21)] fun x22 w22 =>
      AskO X w22 [] (kb20_1 b0 b1 b2 x3 x17) true (appOp (.tmp 21) (.tmp 23) 115) 115 [(21, x10), (23, x22)] fun x23 w23 =>
      Ask (rBin X.P .add 3 false true x11 (J 1)) fun x24 =>
      Again X w23 [] [] fun w => I0 [x23, x24] w ∧ μ0 [x23, x24] w < μ0 [x10, x11] w12) ∧ (x13 = .bool false →
      AskW X w12 [] (kb20_0 b0 b1 x3) false 57 [x10] fun x14 w14 =>
      AskO X w14 [] (kb20_0 b0 b1 x3) false (Go.Op.alloc 117) 0 [] fun x15 w15 =>
      AskO X w15 [] (kb20_0 b0 b1 x3) true (Go.Op.store 117 (Go.Operand.tmp 7) (Go.Operand.tmp 27)) 0 [(7, x15), (27, x14)] fun _ w16 =>
      Ask (rSlc X.P 117 x15 none (some (J 32)) none) fun x17 =>
      Ask (rGen X.P (Go.Op.sliceToArrayPointer 27 (Go.Operand.tmp 28)) 0 [(28, x17)]) fun x18 =>
      Ask (rLoad X w16 [] 27 x18) fun x19 =>
      Ask (rAgg 32 x19) fun x20 =>
      Ret X w16 [b1] [] x20)) := by kernel_rfl
theorem keepsFEnc : Keeps1 Tryz.prog GH 20 cFEnc := by
  refine keepsW (T := Tfe) (A := ann20) hMix keepTfe hGH (calls_of (by kernel_rfl)) (callsW_of (by kernel_rfl)) fun args l w0 hrd hpre hg => ?_
  obtain ⟨x, rfl, hl⟩ := hrd
  replace hl : Ls encS okS w0 x l := hl
  simp only [mx] at hpre
  refine ⟨[.x (.v 0)], [], [], 2, env0 [.agg #[x]] w0, fun b => b, 0, rfl, rfl, fun X hX => mem_none hX rfl, fun X hP hS hw hX hR => ?_⟩
  subst hw; try dsimp only at hR
  rw [vc20 X]
  refine a_agg (cs := [x]) rfl (by simp [slAt_one hl.1]) (a_sel1 rfl ?_)
  intro b0 hb0 b1 hb1
  refine a_build (frL.map B).toArray hX hP tyB (by decide) (by decide) (by kernel_rfl) rfl (by simp only [maxLen]; omega) fun g w4 w4' hw4 k4 s4 su4 o4 => ?_
  obtain ⟨cur, hrow, hgb, hcur⟩ := own_rowF o4
  have lo0 : b0 < w4.heap.size := hw4.low (by simp [kb20_0])
  have lo1 : b1 < w4.heap.size := hw4.low (by simp [kb20_0])
  refine a_mark rfl hX.n hP tyB.sl uU8' rfl hrow List.not_mem_nil (hX.n g (Nat.le_trans hw4.sz0 hgb)) (by simp [kb20_0]; omega) fun w5 w5' hw5 k5 s5 su5 row5 => ?_
  have p5 : Pt w5' (.slice (some ⟨g, 0, none⟩) 4 4) frL := ⟨by decide, g, cur, _, _, rfl, by decide, row5, by decide, fun i y hy => hcur i y (by simpa using hy)⟩
  refine a_build #[.slice (some ⟨g, 0, none⟩) 4 4] hX hP tyBB (by decide) (by decide) (by kernel_rfl) rfl (by decide) fun g6 w6 w6' hw6 k6 s6 su6 o6 => ?_
  have p6 := p5.stpN su6 (fun _ h => by cases h)
  refine call_W hX hS (T := Tfe) (f := 40) rfl (.least, l) (fun w hw => ⟨⟨x, rfl, ⟨hl.1.stp0 (hw.kn.stp0 hX), hl.2⟩, trivial⟩, hpre⟩) fun v w7 w7' hw7 k7 s7 su7 hv => ?_
  obtain ⟨y, rfl, o7⟩ := hv
  dsimp only at o7
  have hlt' : ∀ z ∈ trim (l.map Fk.least.op), z < lN := fun z hz => by
    have h1 : z ∈ l.map Fk.least.op := by
      rw [← trim_pre] at hz; exact List.mem_of_mem_take hz
    obtain ⟨q, _, rfl⟩ := List.mem_map.1 h1
    exact Fk.lt _ _
  have hlen' : (trim (l.map Fk.least.op)).length ≤ 4194304 := Nat.le_trans (trim_len _) (by simpa using hpre)
  generalize trim (l.map Fk.least.op) = m at *
  refine a_fldF hP ?_
  refine a_len hP tyS' (own_slAt o7) ?_
  refine ⟨fun a w => ∃ (j : Nat) (o : Value) (vs : List Value), a = [o, J j] ∧ j ≤ m.length ∧ Kn X w ∧ w7'.heap.size ≤ w.heap.size ∧ w.ownsRow w6.heap.size 114 1 o (1 + j) vs ∧ w.ownsRow w7.heap.size 25 4 y m.length (m.flatMap encS) ∧ (∀ (i : Nat) (x : Value) (a : List Nat), vs[i]? = some x → (partsF (m.take j))[i]? = some a → Pt w x a), fun a _ => match a with | [_, i] => m.length - intNat i | _ => 0,
    fun w2 hw2 => ⟨0, _, _, rfl, Nat.zero_le _, hw2.kn, hw2.size, own_stp0 o6 (by simpa using su7.trans hw2.stp), own_stp0 o7 hw2.stp, fun i x a h1 h2 => ?_⟩, ?_⟩
  · match i, h1, h2 with
    | 0, h1, h2 =>
      simp [partsF] at h1 h2
      subst h1 h2
      exact p6.stpN (by simpa using su7.trans hw2.stp) (fun _ h => by cases h)
  rintro o _ w2 ⟨j, _, vs, he, hj, k2, hz2, ho, oy, hp⟩
  simp only [List.cons.injEq, and_true] at he
  obtain ⟨rfl, rfl⟩ := he
  rw [ask_lssN]
  refine a_ifD (fun hlt => ?_) fun hge => ?_
  · refine a_iadN hP tyS' (own_slAt oy) hlt ?_
    refine a_load_agg (cs := encS m[j]) k2 (own_slAt oy) (hP ▸ aggS) (by rw [hP]; exact szS) (fun _ _ => List.not_mem_nil) (by simp [encS]) (flat_at encS_len m j _ (List.getElem?_eq_getElem hlt)) ?_
    rw [ask_zero4]
    intro b2 hb2
    rw [agg_encS, ask_aggS]
    have hmj := hlt' _ (List.getElem_mem hlt)
    refine call_PE hS (T := Tfe) (f := 56) rfl m[j] (Nat.lt_trans hmj (by decide)) ?_
    rw [Nat.mod_eq_of_lt hmj]
    refine a_alloc hX.n hP ze32F fun r wA wA' hwA kA sA suA hr rowA szA => ?_
    have zA := hwA.size
    have q0 := hwA.low (b := b0) (by simp [kb20_1])
    have q1 := hwA.low (b := b1) (by simp [kb20_1])
    have q2 := hwA.low (b := b2) (by simp [kb20_1])
    have z6 := s6.size
    have z7 := su7.size
    have zA2 := suA.size
    have zw6 := hw6.sz0
    refine a_storeAt (vs := (bytesS m[j]).map B) hX.n hP sz32F rfl rfl (by rw [← encB_bytes]; rfl) (by simp [bytesS_len]) (List.all_eq_true.2 (oneMapB _)) rowA List.not_mem_nil (hX.n _ (by omega)) (by simp [kb20_1]; omega) (by simp [BA, Value.cells]) fun q wB wB' hwB kB sB suB rowB szB => ?_
    rw [spliceL (bytesS_len _)] at rowB
    refine a_slcP0 hP arrB szB1 (by decide) ?_
    have zB := suB.size
    have sAB := suA.trans suB
    have hoB := own_stp ho sAB (fun q hq => by have := ho.lt q hq; simp; omega)
    have oyB := own_stp oy sAB (fun q hq => by have := oy.lt q hq; simp; omega)
    have hvl := ho.1
    refine a_push #[.slice (some ⟨r, 0, none⟩) 32 32] hX hP tyBB rfl rfl (by decide) (by decide) (by decide) (by kernel_rfl) rfl (by simp [Value.oneCell']) rfl zw6 (by omega) hoB (by simp only [maxLen]; omega) (by omega) fun o' w' k' s' ho' _ => ?_
    rw [ask_succ (by omega)]
    intro w3 hw3
    have z3 := hw3.size
    have zs' := s'.size
    have oy' : w'.ownsRow w7.heap.size 25 4 y m.length (m.flatMap encS) := own_stp oyB s' fun q hq => by
      rcases oyB.2 with ⟨rfl, _⟩ | ⟨g', cap, cur', rfl, _, hg', _⟩
      · cases hq
      · cases hq
        exact own_ty hoB _ _ _ _ hg' (by decide)
    refine ⟨⟨j + 1, o', vs ++ [.slice (some ⟨r, 0, none⟩) 32 32], rfl, hlt, hw3.kn, by omega, ?_, own_stp0 oy' hw3.stp, fun i x a h1 h2 => ?_⟩, by simp [intNat]; omega⟩
    · rw [show 1 + (j + 1) = 1 + j + 1 by omega]
      exact own_stp0 ho' hw3.stp
    · rw [partsF_take m j hlt] at h2
      have hpl : (partsF (m.take j)).length = vs.length := by rw [partsF_len, List.length_take]; omega
      have fin : ∀ {x a}, Pt wB' x a → Pt w3 x a := fun h => (h.stp s' (own_ty hoB)).stpN hw3.stp (fun _ h => by cases h)
      rcases Nat.lt_or_ge i vs.length with hi | hi
      · rw [List.getElem?_append_left hi] at h1
        rw [List.getElem?_append_left (by omega)] at h2
        exact fin ((hp i x a h1 h2).stpN sAB fun b hb => by simp at hb; omega)
      · rw [List.getElem?_append_right hi] at h1
        rw [List.getElem?_append_right (by omega), hpl] at h2
        match hk : i - vs.length, h1, h2 with
        | 0, h1, h2 =>
          simp at h1 h2
          subst h1 h2
          exact fin ⟨bytesS_lt _, r, _, _, _, by rw [bytesS_len], by rw [bytesS_len]; decide, rowB, by decide, fun i y hy => by simpa using hy⟩
  · obtain rfl : j = m.length := by omega
    rw [List.take_length] at hp
    have hvl := ho.1
    refine call_W hX hS (T := Tfe) (f := 57) rfl (partsF m, ()) (fun w hw => ⟨⟨_, _, rfl, bss_rd.2 ⟨vs, by rw [partsF_len]; exact (own_slAt ho).stp0 hw.stp, by rw [partsF_len]; omega, fun i y a h1 h2 => ((hp i y a h1 h2).bs).stp0 hw.stp⟩, rfl⟩, by rw [partsF_flat, encF_len]; omega⟩) fun v w10 w10' hw10 k10 s10 su10 hv => ?_
    obtain rfl := hv
    dsimp only
    rw [partsF_flat]
    have z10 := hw10.sz0
    have q0 := hw10.low (b := b0) (by simp [kb20_0])
    have q1 := hw10.low (b := b1) (by simp [kb20_0])
    have z10s := s10.size
    refine a_alloc hX.n hP ze64 fun r wA wA' hwA kA sA suA hr rowA szA => ?_
    have zA := hwA.size
    refine a_storeAt (vs := (sha (encF m)).map B) hX.n hP sz64 rfl rfl rfl (by simp [sha_len]) (List.all_eq_true.2 (oneMapB _)) rowA List.not_mem_nil (hX.n _ (by omega)) (by simp [kb20_0]; omega) (by simp [BA, Value.cells]) fun q wB wB' hwB kB sB suB rowB szB => ?_
    rw [spliceL (sha_len _)] at rowB
    refine a_slcPHF hP ar64B szB1 (by decide) (by decide) ?_
    refine a_arrP hP arrB (by decide) ?_
    have hl32 : (((sha (encF m)).take 32).map B).length = 32 := by simp [sha_len]
    refine a_ldPA (cs := ((sha (encF m)).take 32).map B) kB (by rw [hP]; exact agg32F) (by rw [hP, hl32]; exact sz32F) rowB List.not_mem_nil (fun i y h => ?_) ?_
    · rw [Nat.zero_add]
      simp only [List.getElem?_map, List.getElem?_take] at h
      split at h
      · simpa using h
      · simp at h
    rw [show Ask (rAgg 32 (Value.agg (((sha (encF m)).take 32).map B).toArray)) = Ask (rAgg (((sha (encF m)).take 32).map B).length (Value.agg (((sha (encF m)).take 32).map B).toArray)) by rw [hl32]]
    refine a_agg rfl (List.all_eq_true.2 (oneMapB _)) ?_
    exact hR _ _ _ _ fun w hw => rfl
#print axioms keepsFEnc
end Go.Vc
