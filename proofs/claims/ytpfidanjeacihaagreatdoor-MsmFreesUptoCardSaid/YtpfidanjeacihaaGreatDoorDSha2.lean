/-
  SHA-512: one block, on the program's side.
-/
import Derived.Test.YtpfidanjeacihaaGreatDoorDSha
namespace Go.Vc
open Go Go.Proofs Go.RowKit

/-! ### the tables -/
/-- A table of numbers lies there. -/
structure Tab (w : World) (g : Nat) (l : List Nat) : Prop where
  lt : g < w.heap.size
  at_ : ∀ i, i < l.length → w.cell? ⟨g, i, none⟩ = some (U (l.getD i 0))
theorem Tab.stp {u w : World} {g : Nat} {l : List Nat} {ex : List Nat} (h : Tab u g l) (hs : Stp ex u w) (hb : g ∉ ex) : Tab w g l :=
  ⟨Nat.lt_of_lt_of_le h.lt hs.size, fun i hi => by rw [World.cell?_of_block (w := u) (hs.past g h.lt hb)]; exact h.at_ i hi⟩
structure GH (w : World) : Prop where
  gt : GT w
  k1 : Tab w 6 Ks
  i1 : Tab w 2 IV
  k2 : Tab w 7 Ks
  i2 : Tab w 4 IV
/-- The tables' numbers. -/
def tabs : List Nat := [0, 6, 2, 7, 4]
theorem GT.stp1 {u w : World} {ex : List Nat} (h : GT u) (hs : Stp ex u w) (hb : 0 ∉ ex) : GT w :=
  ⟨Nat.lt_of_lt_of_le h.1 hs.size, fun i v hi => by rw [World.cell?_of_block (w := u) (hs.past 0 h.1 hb)]; exact h.2 i v hi⟩
theorem GH.stp {u w : World} {ex : List Nat} (h : GH u) (hs : Stp ex u w) (hb : ∀ b ∈ ex, b ∉ tabs) : GH w :=
  have g : ∀ t ∈ tabs, t ∉ ex := fun t ht hm => hb t hm ht
  ⟨h.gt.stp1 hs (g _ (by simp [tabs])), h.k1.stp hs (g _ (by simp [tabs])), h.i1.stp hs (g _ (by simp [tabs])), h.k2.stp hs (g _ (by simp [tabs])), h.i2.stp hs (g _ (by simp [tabs]))⟩
theorem GH.off {w : World} (h : GH w) {b : Nat} (hb : w.heap.size ≤ b) : b ∉ tabs := fun hm => by
  have := h.gt.1; have := h.k1.lt; have := h.i1.lt; have := h.k2.lt; have := h.i2.lt
  simp only [tabs, List.mem_cons, List.not_mem_nil, or_false] at hm
  omega
theorem hGH : ∀ w0 w : World, GH w0 → (∀ b, b < w0.heap.size → w.heap[b]? = w0.heap[b]?) → w0.heap.size ≤ w.heap.size → GH w := fun w0 w h h1 h2 => by
  have hs : Stp [] w0 w := ⟨h2, fun b hb _ => h1 b hb⟩
  exact ⟨h.gt.stays h1 h2, h.k1.stp hs List.not_mem_nil, h.i1.stp hs List.not_mem_nil, h.k2.stp hs List.not_mem_nil, h.i2.stp hs List.not_mem_nil⟩
theorem Keeps1.inG {P : Program} {G G' : World → Prop} {f : Nat} {c : Contract} (h : Keeps1 P G f c) (hg : ∀ w, G' w → G w) : Keeps1 P G' f c :=
  ⟨fun args w hp hG => h.calls args w hp (hg w hG), fun args w hp hG => h.callsW args w hp (hg w hG)⟩
theorem keepH0 : AllKeep Tryz.prog GH T0 := AllKeep.none _ _
theorem gGT : ∀ w, GH w → GT w := fun _ h => h.gt

/-! ### a hash that is being written to -/
def stC (hs bs : List Nat) (n : Nat) : List Value := hs.map U ++ bs.map B ++ [J n, .bool true]
structure StAt (w : World) (b : Nat) (hs bs : List Nat) (n : Nat) : Prop where
  row : w.heap[b]? = some (.cells (stC hs bs n).toArray 203 (0, 0))
  l8 : hs.length = 8
  l128 : bs.length = 128
  hlt : ∀ x ∈ hs, x < B64
  blt : ∀ x ∈ bs, x < 256
theorem StAt.low {w : World} {b : Nat} {hs bs : List Nat} {n : Nat} (h : StAt w b hs bs n) : b < w.heap.size := (Array.getElem?_eq_some_iff.1 h.row).1
theorem StAt.stp {u w : World} {b : Nat} {hs bs : List Nat} {n : Nat} {ex : List Nat} (h : StAt u b hs bs n) (hs' : Stp ex u w) (hb : b ∉ ex) : StAt w b hs bs n :=
  ⟨by rw [hs'.past b h.low hb]; exact h.row, h.l8, h.l128, h.hlt, h.blt⟩
theorem stC_h {hs bs : List Nat} {n : Nat} (h8 : hs.length = 8) {i : Nat} (hi : i < 8) : (stC hs bs n)[i]? = some (U (hs.getD i 0)) := by
  unfold stC
  rw [List.append_assoc, List.getElem?_append_left (by simpa using (by omega : i < hs.length)), List.getElem?_map, List.getElem?_eq_getElem (by omega), List.getD_eq_getElem?_getD, List.getElem?_eq_getElem (by omega)]; rfl
theorem stC_b {hs bs : List Nat} {n : Nat} (h8 : hs.length = 8) (h128 : bs.length = 128) {i : Nat} (hi : i < 128) : (stC hs bs n)[8 + i]? = some (B (bs.getD i 0)) := by
  unfold stC
  rw [List.append_assoc, List.getElem?_append_right (by simp [h8]), List.length_map, h8, Nat.add_sub_cancel_left, List.getElem?_append_left (by simpa using (by omega : i < bs.length)), List.getElem?_map, List.getElem?_eq_getElem (by omega), List.getD_eq_getElem?_getD, List.getElem?_eq_getElem (by omega)]; rfl
theorem stC_n {hs bs : List Nat} {n : Nat} (h8 : hs.length = 8) (h128 : bs.length = 128) : (stC hs bs n)[136]? = some (J n) ∧ (stC hs bs n)[137]? = some (.bool true) := by
  unfold stC
  have hl : (hs.map U ++ bs.map B).length = 136 := by simp [h8, h128]
  exact ⟨by rw [List.getElem?_append_right (by omega), hl]; rfl, by rw [List.getElem?_append_right (by omega), hl]; rfl⟩
theorem stC_len {hs bs : List Nat} {n : Nat} (h8 : hs.length = 8) (h128 : bs.length = 128) : (stC hs bs n).length = 138 := by simp [stC, h8, h128]
theorem stC_inj {hs bs hs' bs' : List Nat} {n n' : Nat} (h8 : hs.length = 8) (h8' : hs'.length = 8) (hb : bs.length = bs'.length) (h : stC hs bs n = stC hs' bs' n') : hs = hs' ∧ bs = bs' ∧ n = n' := by
  unfold stC at h
  rw [List.append_assoc, List.append_assoc] at h
  obtain ⟨e1, h⟩ := List.append_inj h (by simp [h8, h8'])
  obtain ⟨e2, h⟩ := List.append_inj h (by simp [hb])
  simp only [List.cons.injEq, and_true] at h
  exact ⟨mapU_inj e1, mapB_inj e2, J_inj0 h⟩
/-- One word anew. -/
theorem StAt.word {u w : World} {b : Nat} {hs bs : List Nat} {n i x : Nat} (h : StAt u b hs bs n) (hr : w.heap[b]? = some (.cells (splice (stC hs bs n).toArray (0 + 0 + i * 1) [U x]) 203 (0, 0))) (hi : i < 8) (hx : x < B64) : StAt w b (hs.set i x) bs n := by
  refine ⟨?_, by rw [List.length_set]; exact h.l8, h.l128, fun y hy => ?_, h.blt⟩
  · rw [hr, show 0 + 0 + i * 1 = i by omega, splice_set (by rw [stC_len h.l8 h.l128]; omega)]
    unfold stC
    rw [List.map_set, List.append_assoc, List.append_assoc, List.set_append_left _ _ (by simpa using (by rw [h.l8]; exact hi : i < hs.length))]
  · rcases List.mem_or_eq_of_mem_set hy with h' | rfl
    · exact h.hlt y h'
    · exact hx
theorem words_step {cs hs : List Nat} {i : Nat} (hc : cs.length = 8) (hh : hs.length = 8) (hi : i < 8) : (cs.take i ++ hs.drop i).set i (cs.getD i 0) = cs.take (i + 1) ++ hs.drop (i + 1) := by
  rw [List.set_append_right _ _ (by rw [List.length_take, hc]; omega), List.length_take, hc, Nat.min_eq_left (by omega), Nat.sub_self, List.take_succ_eq_append_getElem (by rw [hc]; omega), List.drop_eq_getElem_cons (by rw [hh]; omega), List.set_cons_zero, List.getD_eq_getElem?_getD, List.getElem?_eq_getElem (by rw [hc]; omega)]
  rw [List.append_assoc]; rfl
theorem words_at {cs hs : List Nat} {i : Nat} (hc : cs.length = 8) (hi : i < 8) : (cs.take i ++ hs.drop i).getD i 0 = hs.getD i 0 := by
  rw [List.getD_eq_getElem?_getD, List.getElem?_append_right (by rw [List.length_take, hc]; omega), List.length_take, hc, Nat.min_eq_left (by omega), Nat.sub_self, List.getElem?_drop, Nat.add_zero, List.getD_eq_getElem?_getD]
theorem cpr_at {hs bs : List Nat} {i : Nat} (h8 : hs.length = 8) (hi : i < 8) : (cpr hs bs).getD i 0 = ad (hs.getD i 0) ((rnds (sch (wordAt bs) 80) 80 (V8.of hs)).l.getD i 0) := by
  unfold cpr
  generalize rnds (sch (wordAt bs) 80) 80 (V8.of hs) = v
  rw [List.getD_eq_getElem?_getD, List.getElem?_zipWith, List.getD_eq_getElem?_getD, List.getD_eq_getElem?_getD, List.getElem?_eq_getElem (by rw [h8]; exact hi), List.getElem?_eq_getElem (show i < v.l.length from hi)]
  rfl
abbrev PSt (b : Nat) : Value := .pointer (some ⟨b, 0, none⟩)
def cSt : Cods (Nat × List Nat × List Nat × Nat) := ⟨fun w l p => l = [PSt p.1] ∧ StAt w p.1 p.2.1 p.2.2.1 p.2.2.2, fun w l ⟨b, hs, bs, n⟩ ⟨b', hs', bs', n'⟩ ⟨e, h⟩ ⟨e', h'⟩ => by
  rw [e] at e'
  simp only [List.cons.injEq, Value.pointer.injEq, Option.some.injEq, Addr.mk.injEq, and_true] at e'
  subst e'
  have := h.row.symm.trans h'.row
  simp only [Option.some.injEq, Obj.cells.injEq, and_true] at this
  obtain ⟨rfl, rfl, rfl⟩ := stC_inj h.l8 h'.l8 (h.l128.trans h'.l128.symm) (congrArg Array.toList this)
  rfl⟩
section
variable {X : Ctx} {P : Program} {K : Value → Prop}
theorem a_iadV {t elem s bytes b o n cap i : Nat} {z : Value} (hP : X.P = P) (hu : ElTy P t elem s bytes z) (h1 : i < n) (hK : K (.pointer (some ⟨b, o + i * s, none⟩))) : Ask (rIad X.P t (.slice (some ⟨b, o, none⟩) n cap) (J i)) K := by
  subst hP
  rw [ask_iad_sl hu.sl hu.sz (by omega) (by omega)]
  simpa using hK
/-- An element of an array value. -/
theorem a_idx {t n e i : Nat} {cs : List Value} {v : Value} (hP : X.P = P) (hu : P.underlying t = some (.array n e)) (hs : sz P e = some 1) (ha : agg? P e = some false) (hi : i < n) (hv : cs[i]? = some v) (hK : K v) : Ask (rIdx X.P t (.agg cs.toArray) (J i)) K := by
  subst hP
  have e' : Ask (rIdx X.P t (.agg cs.toArray) (J i)) K = K v := ask_eq (runs_iff fun w => by
    have h1 : (0 : Int) ≤ (i : Int) ∧ (i : Int) < (n : Int) := by omega
    have hag := run_agg (X := X) ha w
    simp only [Instr.index, asIntOf, Sem.run_bind, run_underlying hu, Result.andThen_ok]
    simp [run_sz hs, part, hag, hv]
    omega)
  rw [e']; exact hK
end
theorem tyB : ElTy Tryz.prog 114 5 1 1 (B 0) := ⟨by kernel_rfl, by kernel_rfl⟩
theorem aggU8 : agg? Tryz.prog 5 = some false := by kernel_rfl
theorem aggU64 : agg? Tryz.prog 23 = some false := by kernel_rfl
theorem szU8 : sz Tryz.prog 5 = some 1 := by kernel_rfl
theorem szU64 : sz Tryz.prog 23 = some 1 := by kernel_rfl
theorem fdW : FdTy Tryz.prog 203 0 0 := ⟨7, by kernel_rfl⟩
theorem fdBl : FdTy Tryz.prog 203 1 8 := ⟨127, by kernel_rfl⟩
theorem fdSz : FdTy Tryz.prog 203 2 136 := ⟨0, by kernel_rfl⟩
theorem fdMd : FdTy Tryz.prog 203 3 137 := ⟨0, by kernel_rfl⟩
theorem arBl : Tryz.prog.underlying 201 = some (.array 128 5) := by kernel_rfl
theorem arW : Tryz.prog.underlying 165 = some (.array 8 23) := by kernel_rfl
theorem arK : Tryz.prog.underlying 211 = some (.array 80 23) := by kernel_rfl
theorem aggW8 : agg? Tryz.prog 165 = some true := by kernel_rfl
theorem szW8 : sz Tryz.prog 165 = some 8 := by kernel_rfl
theorem sched_set {m : Nat → Nat} {t k : Nat} : (sch m t ++ List.replicate (k + 1) 0).set t (nx m (sch m t) t) = sch m (t + 1) ++ List.replicate k 0 := by
  rw [List.set_append_right _ _ (by rw [sch_len]; exact Nat.le_refl _), sch_len, Nat.sub_self, List.replicate_succ, List.set_cons_zero, sch]
  simp
theorem sched_get {m : Nat → Nat} {t k i : Nat} (hi : i < t) : (sch m t ++ List.replicate k 0).getD i 0 = (sch m t).getD i 0 := by
  rw [List.getD_eq_getElem?_getD, List.getD_eq_getElem?_getD, List.getElem?_append_left (by rw [sch_len]; exact hi)]
theorem getD_lt {l : List Nat} {n : Nat} (h : ∀ x ∈ l, x < n) (h0 : 0 < n) (i : Nat) : l.getD i 0 < n := by
  rw [List.getD_eq_getElem?_getD]
  rcases Nat.lt_or_ge i l.length with hi | hi
  · rw [List.getElem?_eq_getElem hi]; exact h _ (List.getElem_mem hi)
  · rw [List.getElem?_eq_none hi]; exact h0
theorem zeros80 : Value.agg #[U 0, U 0, U 0, U 0, U 0, U 0, U 0, U 0, U 0, U 0, U 0, U 0, U 0, U 0, U 0, U 0, U 0, U 0, U 0, U 0, U 0, U 0, U 0, U 0, U 0, U 0, U 0, U 0, U 0, U 0, U 0, U 0, U 0, U 0, U 0, U 0, U 0, U 0, U 0, U 0, U 0, U 0, U 0, U 0, U 0, U 0, U 0, U 0, U 0, U 0, U 0, U 0, U 0, U 0, U 0, U 0, U 0, U 0, U 0, U 0, U 0, U 0, U 0, U 0, U 0, U 0, U 0, U 0, U 0, U 0, U 0, U 0, U 0, U 0, U 0, U 0, U 0, U 0, U 0, U 0] = UA (sch (fun _ => 0) 0 ++ List.replicate 80 0) := by kernel_rfl

/-- One place of the schedule, as both sides work it out. -/
theorem nx_ge {m : Nat → Nat} {t : Nat} (ht : 16 ≤ t) (l : List Nat) : nx m l t = ad (ad (ad ((rr (l.getD (t - 2) 0) 19 ^^^ rr (l.getD (t - 2) 0) 61) ^^^ l.getD (t - 2) 0 / 2 ^ 6) (l.getD (t - 7) 0)) ((rr (l.getD (t - 15) 0) 1 ^^^ rr (l.getD (t - 15) 0) 8) ^^^ l.getD (t - 15) 0 / 2 ^ 7)) (l.getD (t - 16) 0) := by
  unfold nx
  rw [if_neg (by omega)]

def Ttk : Table := T0.add 147 cRot
theorem keepTtk : AllKeep Tryz.prog GH Ttk := keepH0.add (keepsRot.inG gGT)
def ann138 : Ann := ⟨[(2, ([26], [0])), (5, ([39], [0])), (11, ([6], [0])), (20, ([19, 18, 17, 16, 15, 14, 13, 12, 117], [])), (28, ([190], []))], [147], 70, [], [2], none, [], []⟩
def kb138_0 (b0 : Nat) (x2 : Value) : List KB := [⟨b0, true, 211, (aggArr x2)⟩]
def kb138_1 (b0 : Nat) (x4 : Value) : List KB := [⟨b0, true, 211, (aggArr x4)⟩]
def kb138_2 (b0 b1 : Nat) (x8 x15 x16 x17 x18 x19 x20 x21 x22 : Value) : List KB := [⟨b0, true, 211, (aggArr x8)⟩, ⟨b1, true, 165, #[x15, x16, x17, x18, x19, x20, x21, x22]⟩]
theorem vc138 (X : Ctx) (β : Nat → Nat) (x0 : Value) : (run Tryz.prog ann138 138 [.x (.v 0)] [] [] 2).den X (env0 [x0] X.w0) 2 β 0 (fun _ _ _ => False) = (
  Ask (rAgg 80 (.agg #[(U 0), (U 0), (U 0), (U 0), (U 0), (U 0), (U 0), (U 0), (U 0), (U 0), (U 0), (U 0), (U 0), (U 0), (U 0), (U 0), (U 0), (U 0), (U 0), (U 0), (U 0), (U 0), (U 0), (U 0), (U 0), (U 0), (U 0), (U 0), (U 0), (U 0), (U 0), (U 0), (U 0), (U 0), (U 0), (U 0), (U 0), (U 0), (U 0), (U 0), (U 0), (U 0), (U 0), (U 0), (U 0), (U 0), (U 0), (U 0), (U 0), (U 0), (U 0), (U 0), (U 0), (U 0), (U 0), (U 0), (U 0), (U 0), (U 0), (U 0), (U 0), (U 0), (U 0), (U 0), (U 0), (U 0), (U 0), (U 0), (U 0), (U 0), (U 0), (U 0), (U 0), (U 0), (U 0), (U 0), (U 0), (U 0), (U 0), (U 0)])) fun x2 =>
  AskNew X.w0 fun b0 =>
  ∃ (I0 : List Value → World → Prop) (μ0 : List Value → World → Nat), (∀ w, KnownV X X.w0 [] (kb138_0 b0 x2) w → I0 [(J 0), x2] w) ∧ ∀ x3 x4 w5, I0 [x3, x4] w5 →
    Ask (rBin X.P .lss 3 false true x3 (J 16)) fun x6 =>
    (∃ t, x6 = .bool t) ∧ (x6 = .bool true →
      Ask (rGen X.P (Go.Op.nilCheck (Go.Operand.tmp 29)) 0 [(29, x0)]) fun x7 =>
      Ask (rFad X.P 203 x7 1) fun x8 =>
      Ask (rBin X.P .mul 3 true false (J 8) x3) fun x9 =>
      Ask (rBin X.P .mul 3 true false (J 8) x3) fun x10 =>
      Ask (rBin X.P .add 3 false true x10 (J 8)) fun x11 =>
      Ask (rSlc X.P 201 x8 (some x9) (some x11) none) fun x12 =>
      Ask (rLen X.P 114 x12) fun x13 =>
      ∃ (I1 : List Value → World → Prop) (μ1 : List Value → World → Nat), (∀ w, KnownV X w5 [] (kb138_1 b0 x4) w → I1 [(J 0), x4] w) ∧ ∀ x14 x15 w16, I1 [x14, x15] w16 →
        Ask (rBin X.P .lss 3 false false x14 x13) fun x17 =>
        (∃ t, x17 = .bool t) ∧ (x17 = .bool true →
          Ask (rIad X.P 114 x12 x14) fun x18 =>
          Ask (rLoad X w16 [] 5 x18) fun x19 =>
          Ask (rIx 80 x3) fun x20 =>
          Ask (rSel (aggArr x15) (0 + intNat x20 * 1) 1 false) fun x21 =>
          Ask (rBin X.P .shl 23 false true x21 (U 8)) fun x22 =>
          Ask (rConv X.P 5 23 x19) fun x23 =>
          Ask (rBin X.P .or 23 false false x22 x23) fun x24 =>
          Ask (rIx 80 x3) fun x25 =>
          Ask (rUpd (aggArr x15) (0 + intNat x25 * 1) 1 x24) fun x26 =>
          Ask (rBin X.P .add 3 false true x14 (J 1)) fun x27 =>
          Again X w16 [b0] [] fun w => I1 [x27, x26] w ∧ μ1 [x27, x26] w < μ1 [x14, x15] w16) ∧ (x17 = .bool false →
          Ask (rBin X.P .add 3 false true x3 (J 1)) fun x18 =>
          Again X w16 [] [] fun w => I0 [x18, x15] w ∧ μ0 [x18, x15] w < μ0 [x3, x4] w5)) ∧ (x6 = .bool false →
      ∃ (I0 : List Value → World → Prop) (μ0 : List Value → World → Nat), (∀ w, KnownV X w5 [] (kb138_1 b0 x4) w → I0 [(J 16), x4] w) ∧ ∀ x7 x8 w9, I0 [x7, x8] w9 →
        Ask (rBin X.P .lss 3 false true x7 (J 80)) fun x10 =>
        (∃ t, x10 = .bool t) ∧ (x10 = .bool true →
          Ask (rBin X.P .sub 3 false true x7 (J 2)) fun x11 =>
          Ask (rIx 80 x11) fun x12 =>
          Ask (rSel (aggArr x8) (0 + intNat x12 * 1) 1 false) fun x13 =>
          Ask (rBin X.P .sub 3 false true x7 (J 15)) fun x14 =>
          Ask (rIx 80 x14) fun x15 =>
          Ask (rSel (aggArr x8) (0 + intNat x15 * 1) 1 false) fun x16 =>
          AskF X 147 [x13, (.int .i64 (-19))] fun x17 =>
          AskF X 147 [x13, (.int .i64 (-61))] fun x18 =>
          Ask (rBin X.P .xor 23 false false x17 x18) fun x19 =>
          Ask (rBin X.P .shr 23 false true x13 (U 6)) fun x20 =>
          Ask (rBin X.P .xor 23 false false x19 x20) fun x21 =>
          AskF X 147 [x16, (.int .i64 (-1))] fun x22 =>
          AskF X 147 [x16, (.int .i64 (-8))] fun x23 =>
          Ask (rBin X.P .xor 23 false false x22 x23) fun x24 =>
          Ask (rBin X.P .shr 23 false true x16 (U 7)) fun x25 =>
          Ask (rBin X.P .xor 23 false false x24 x25) fun x26 =>
          Ask (rBin X.P .sub 3 false true x7 (J 7)) fun x27 =>
          Ask (rIx 80 x27) fun x28 =>
          Ask (rSel (aggArr x8) (0 + intNat x28 * 1) 1 false) fun x29 =>
          Ask (rBin X.P .add 23 false false x21 x29) fun x30 =>
          Ask (rBin X.P .add 23 false false x30 x26) fun x31 =>
          Ask (rBin X.P .sub 3 false true x7 (J 16)) fun x32 =>
          Ask (rIx 80 x32) fun x33 =>
          Ask (rSel (aggArr x8) (0 + intNat x33 * 1) 1 false) fun x34 =>
          Ask (rBin X.P .add 23 false false x31 x34) fun x35 =>
          Ask (rIx 80 x7) fun x36 =>
          Ask (rUpd (aggArr x8) (0 + intNat x36 * 1) 1 x35) fun x37 =>
          Ask (rBin X.P .add 3 false true x7 (J 1)) fun x38 =>
          Again X w9 [b0] [] fun w => I0 [x38, x37] w ∧ μ0 [x38, x37] w < μ0 [x7, x8] w9) ∧ (x10 = .bool false →
          Ask (rGen X.P (Go.Op.nilCheck (Go.Operand.tmp 97)) 0 [(97, x0)]) fun x11 =>
          Ask (rFad X.P 203 x11 0) fun x12 =>
          Ask (rLoad X w9 [] 165 x12) fun x13 =>
          AskNew w9 fun b1 =>
          Ask (rAgg 8 x13) fun x14 =>
          Ask (rSel (aggArr x14) 0 1 false) fun x15 =>
          Ask (rSel (aggArr x14) 1 1 false) fun x16 =>
          Ask (rSel (aggArr x14) 2 1 false) fun x17 =>
          Ask (rSel (aggArr x14) 3 1 false) fun x18 =>
          Ask (rSel (aggArr x14) 4 1 false) fun x19 =>
          Ask (rSel (aggArr x14) 5 1 false) fun x20 =>
          Ask (rSel (aggArr x14) 6 1 false) fun x21 =>
          Ask (rSel (aggArr x14) 7 1 false) fun x22 =>
          ∃ (I0 : List Value → World → Prop) (μ0 : List Value → World → Nat), (∀ w, KnownV X w9 [b1] (kb138_2 b0 b1 x8 x15 x16 x17 x18 x19 x20 x21 x22) w → I0 [x15, x16, x17, x18, x19, x20, x21, x22, (J 0)] w) ∧ ∀ x23 x24 x25 x26 x27 x28 x29 x30 x31 w32, I0 [x23, x24, x25, x26, x27, x28, x29, x30, x31] w32 →
            Ask (rBin X.P .lss 3 false true x31 (J 80)) fun x33 =>
            (∃ t, x33 = .bool t) ∧ (x33 = .bool true →
              AskF X 147 [x27, (.int .i64 (-14))] fun x34 =>
              AskF X 147 [x27, (.int .i64 (-18))] fun x35 =>
              Ask (rBin X.P .xor 23 false false x34 x35) fun x36 =>
              AskF X 147 [x27, (.int .i64 (-41))] fun x37 =>
              Ask (rBin X.P .xor 23 false false x36 x37) fun x38 =>
              Ask (rBin X.P .add 23 false false x30 x38) fun x39 =>
              Ask (rBin X.P .and 23 false false x27 x28) fun x40 =>
              Ask (rUn X.P .xor x27) fun x41 =>
              Ask (rBin X.P .and 23 false false x41 x29) fun x42 =>
              Ask (rBin X.P .xor 23 false false x40 x42) fun x43 =>
              Ask (rBin X.P .add 23 false false x39 x43) fun x44 =>
              Ask (rIad X.P 211 (.pointer (some ⟨6, 0, none⟩)) x31) fun x45 =>
              Ask (rLoad X w32 [] 23 x45) fun x46 =>
              Ask (rBin X.P .add 23 false false x44 x46) fun x47 =>
              Ask (rIx 80 x31) fun x48 =>
              Ask (rSel (aggArr x8) (0 + intNat x48 * 1) 1 false) fun x49 =>
              Ask (rBin X.P .add 23 false false x47 x49) fun x50 =>
              AskF X 147 [x23, (.int .i64 (-28))] fun x51 =>
              AskF X 147 [x23, (.int .i64 (-34))] fun x52 =>
              Ask (rBin X.P .xor 23 false false x51 x52) fun x53 =>
              AskF X 147 [x23, (.int .i64 (-39))] fun x54 =>
              Ask (rBin X.P .xor 23 false false x53 x54) fun x55 =>
              Ask (rBin X.P .add 23 false false x26 x50) fun x56 =>
              Ask (rBin X.P .add 23 false false x50 x55) fun x57 =>
              Ask (rBin X.P .and 23 false false x23 x24) fun x58 =>
              Ask (rBin X.P .and 23 false false x23 x25) fun x59 =>
              Ask (rBin X.P .xor 23 false false x58 x59) fun x60 =>
              Ask (rBin X.P .and 23 false false x24 x25) fun x61 =>
              Ask (rBin X.P .xor 23 false false x60 x61) fun x62 =>
              Ask (rBin X.P .add 23 false false x57 x62) fun x63 =>
              Ask (rBin X.P .add 3 false true x31 (J 1)) fun x64 =>
              Again X w32 [] [] fun w => I0 [x63, x23, x24, x25, x56, x27, x28, x29, x64] w ∧ μ0 [x63, x23, x24, x25, x56, x27, x28, x29, x64] w < μ0 [x23, x24, x25, x26, x27, x28, x29, x30, x31] w32) ∧ (x33 = .bool false →
              Ask (rPlain x23) fun x34 =>
              Ask (rPlain x24) fun x35 =>
              Ask (rPlain x25) fun x36 =>
              Ask (rPlain x26) fun x37 =>
              Ask (rPlain x27) fun x38 =>
              Ask (rPlain x28) fun x39 =>
              Ask (rPlain x29) fun x40 =>
              Ask (rPlain x30) fun x41 =>
              ∃ (I0 : List Value → World → Prop) (μ0 : List Value → World → Nat), (∀ w, KnownV X w32 [] (kb138_2 b0 b1 x8 x15 x16 x17 x18 x19 x20 x21 x22) w → I0 [(J 0)] w) ∧ ∀ x42 w43, I0 [x42] w43 →
                Ask (rBin X.P .lss 3 false true x42 (J 8)) fun x44 =>
                (∃ t, x44 = .bool t) ∧ (x44 = .bool true →
                  Ask (rIdx X.P 165 (.agg #[x34, x35, x36, x37, x38, x39, x40, x41]) x42) fun x45 =>
                  Ask (rGen X.P (Go.Op.nilCheck (Go.Operand.tmp 194)) 0 [(194, x0)]) fun x46 =>
                  Ask (rFad X.P 203 x46 0) fun x47 =>
                  Ask (rIad X.P 165 x47 x42) fun x48 =>
                  Ask (rLoad X w43 [] 23 x48) fun x49 =>
                  Ask (rBin X.P .add 23 false false x49 x45) fun x50 =>
                  Ask (rGen X.P (Go.Op.nilCheck (Go.Operand.tmp 194)) 0 [(194, x0)]) fun x51 =>
                  Ask (rFad X.P 203 x51 0) fun x52 =>
                  Ask (rIad X.P 165 x52 x42) fun x53 =>
                  AskO X w43 [] (kb138_2 b0 b1 x8 x15 x16 x17 x18 x19 x20 x21 x22) true (Go.Op.store 23 (Go.Operand.tmp 204) (Go.Operand.tmp 201)) 0 [(204, x53), (201, x50)] fun _ w54 =>
                  Ask (rBin X.P .add 3 false true x42 (J 1)) fun x55 =>
                  Again X w54 [] [] fun w => I0 [x55] w ∧ μ0 [x55] w < μ0 [x42] w43) ∧ (x44 = .bool false →
                  Ret X w43 [] [] (.tuple #[])))))) := by kernel_rfl
def cTake : Contract := fnM cSt (fun p _ => p.1 ∉ tabs) (fun p _ v w' => v = .tuple #[] ∧ StAt w' p.1 (cpr p.2.1 p.2.2.1) p.2.2.1 p.2.2.2) (fun p b => b = p.1)
theorem hGHM {α : Type} {md : α → Nat → Prop} {a : α} {w0 w : World} {b : Nat} (hm : ∀ q, md a q → q = b) (hb : b ∉ tabs) (h : GH w0) (h1 : ∀ b, b < w0.heap.size → ¬ md a b → w.heap[b]? = w0.heap[b]?) (h2 : w0.heap.size ≤ w.heap.size) : GH w :=
  h.stp (ex := [b]) ⟨h2, fun q hq hn => h1 q hq fun hh => hn (by rw [hm q hh]; exact List.mem_singleton_self _)⟩ (fun q hq => by rw [List.mem_singleton.1 hq]; exact hb)
theorem keepsTake : Keeps1 Tryz.prog GH 138 cTake := by
  refine keepsM (T := Ttk) (A := ann138) hMix keepTtk (fun a w0 w args _ hp h h1 h2 => hGHM (α := Nat × List Nat × List Nat × Nat) (md := fun p b => b = p.1) (a := a) (fun _ hq => hq) hp h h1 h2) (calls_of (by kernel_rfl)) (callsW_of (by kernel_rfl)) fun args ⟨b, hs, bs, n⟩ w0 hrd hpre hg => ?_
  obtain ⟨rfl, hst⟩ := hrd
  dsimp only at hst
  refine ⟨[.x (.v 0)], [], [], 2, env0 [PSt b] w0, fun b => b, 0, rfl, rfl, fun X hX => mem_none hX rfl, fun X hP hS hw hX hR => ?_⟩
  subst hw; try dsimp only at hR
  rw [vc138 X]
  have hbl := hst.low
  have mb : X.mine b := (hX b).2 (.inr rfl)
  have stp0 : ∀ {w}, Kn X w → Stp [b] X.w0 w := fun hk => hk.stpM hX (fun q hq => by simp [hq])
  have tabAt : ∀ {w}, Kn X w → Tab w 6 Ks := fun hk => hg.k1.stp (stp0 hk) (by simp only [List.mem_singleton]; rintro rfl; exact hpre (by simp [tabs]))
  have mlt := wordAt_lt hst.blt
  rw [zeros80]
  refine a_aggU rfl ?_
  intro b0 hb0
  have bne : b ∉ [b0] := by simp; omega
  refine ⟨fun a w => ∃ t, a = [J t, UA (sch (wordAt bs) t ++ List.replicate (80 - t) 0)] ∧ t ≤ 16 ∧ StAt w b hs bs n ∧ Kn X w, fun a _ => match a with | [i, _] => 16 - intNat i | _ => 0, fun w hw => ⟨0, rfl, Nat.zero_le _, hst.stp hw.stp List.not_mem_nil, hw.kn⟩, ?_⟩
  rintro _ _ w5 ⟨t, he, ht, st5, k5⟩
  simp only [List.cons.injEq, and_true] at he
  obtain ⟨rfl, rfl⟩ := he
  rw [ask_lssN]
  refine a_ifD (fun hlt => ?_) fun hge => ?_
  · refine a_nilCheck (a_fadP hP fdBl ?_)
    rw [ask_mulN (by omega), ask_mulN (by omega), ask_addN (by omega)]
    refine a_slcP hP arBl szU8 (lo := 8 * t) (hi := 8 * t + 8) (by omega) (by omega) (by omega) ?_
    refine a_lenV hP tyB ?_
    rw [show 8 * t + 8 - 8 * t = 8 by omega]
    refine ⟨fun a w => ∃ j, a = [J j, UA (sch (wordAt bs) t ++ beW ((bs.drop (8 * t)).take j) :: List.replicate (79 - t) 0)] ∧ j ≤ 8 ∧ StAt w b hs bs n ∧ Kn X w, fun a _ => match a with | [i, _] => 8 - intNat i | _ => 0,
      fun w hw => ⟨0, by rw [show 80 - t = (79 - t) + 1 by omega, List.replicate_succ]; rfl, Nat.zero_le _, st5.stp hw.stp List.not_mem_nil, hw.kn⟩, ?_⟩
    rintro _ _ w16 ⟨j, he, hj, st16, k16⟩
    simp only [List.cons.injEq, and_true] at he
    obtain ⟨rfl, rfl⟩ := he
    rw [ask_lssN]
    have hgd : (sch (wordAt bs) t ++ beW ((bs.drop (8 * t)).take j) :: List.replicate (79 - t) 0).getD t 0 = beW ((bs.drop (8 * t)).take j) := by
      rw [List.getD_eq_getElem?_getD, List.getElem?_append_right (by rw [sch_len]; exact Nat.le_refl _), sch_len, Nat.sub_self]; rfl
    have hlen : (sch (wordAt bs) t ++ beW ((bs.drop (8 * t)).take j) :: List.replicate (79 - t) 0).length = 80 := by simp [sch_len]; omega
    refine a_ifD (fun hlt2 => ?_) fun hge2 => ?_
    · refine a_iadV hP tyB hlt2 ?_
      refine a_ldP k16 (hP ▸ aggU8) st16.row List.not_mem_nil (v := B (bs.getD (8 * t + j) 0)) (by rw [List.getElem?_toArray, show 0 + 8 + 8 * t + j * 1 = 8 + (8 * t + j) by omega]; exact stC_b hst.l8 hst.l128 (by omega)) ?_
      have hc : bs.getD (8 * t + j) 0 < 256 := getD_lt hst.blt (by decide) _
      have hw7 : beW ((bs.drop (8 * t)).take j) < 256 ^ j := by
        have h1 := beW_lt ((bs.drop (8 * t)).take j) (fun x hx => hst.blt x (List.mem_of_mem_drop (List.mem_of_mem_take hx)))
        rwa [show ((bs.drop (8 * t)).take j).length = j by rw [List.length_take, List.length_drop, hst.l128]; omega] at h1
      have hw8 : beW ((bs.drop (8 * t)).take j) * 256 < B64 := by
        have : 256 ^ j ≤ 256 ^ 7 := Nat.pow_le_pow_right (by decide) (by omega)
        simp only [B64] at *; omega
      rw [ask_ixN (by omega)]
      refine a_selU (k := t) (by rw [intNatJ]; omega) (by rw [hlen]; omega) ?_
      rw [hgd, ask_ushlU (by decide), hP, ask_b2u (Nat.lt_trans hc (by decide)), show (2 : Nat) ^ 8 = 256 from rfl, Nat.mod_eq_of_lt hw8, ask_uorU 8 hw8 (by omega) hc (Nat.lt_trans hc (by decide)), ask_ixN (by omega)]
      refine a_updU (k := t) (by rw [intNatJ]; omega) (by rw [hlen]; omega) ?_
      rw [← hP, ask_succ (by omega)]
      intro w2 hw2
      refine ⟨⟨j + 1, ?_, by omega, st16.stp hw2.stp bne, hw2.kn⟩, by simp [intNat]; omega⟩
      congr 2
      rw [List.set_append_right _ _ (by rw [sch_len]; exact Nat.le_refl _), sch_len, Nat.sub_self, List.set_cons_zero]
      have hd : 8 * t + j < bs.length := by rw [hst.l128]; omega
      have e : (bs.drop (8 * t)).take (j + 1) = (bs.drop (8 * t)).take j ++ [bs.getD (8 * t + j) 0] := by
        rw [List.take_succ_eq_append_getElem (by rw [List.length_drop]; omega), List.getElem_drop, List.getD_eq_getElem?_getD, List.getElem?_eq_getElem hd]; rfl
      rw [e, beW_snoc]
    · obtain rfl : j = 8 := by omega
      rw [ask_succ (by omega)]
      intro w2 hw2
      refine ⟨⟨t + 1, ?_, by omega, st16.stp hw2.stp List.not_mem_nil, hw2.kn⟩, by simp [intNat]; omega⟩
      have e : nx (wordAt bs) (sch (wordAt bs) t) t = beW ((bs.drop (8 * t)).take 8) := by unfold nx; rw [if_pos hlt]; rfl
      simp only [sch, e]
      rw [show 80 - (t + 1) = 79 - t by omega]
      simp
  obtain rfl : t = 16 := by omega
  refine ⟨fun a w => ∃ t, a = [J t, UA (sch (wordAt bs) t ++ List.replicate (80 - t) 0)] ∧ 16 ≤ t ∧ t ≤ 80 ∧ StAt w b hs bs n ∧ Kn X w, fun a _ => match a with | [i, _] => 80 - intNat i | _ => 0, fun w hw => ⟨16, rfl, Nat.le_refl _, by decide, st5.stp hw.stp List.not_mem_nil, hw.kn⟩, ?_⟩
  rintro _ _ w9 ⟨t, he, ht16, ht80, st9, k9⟩
  simp only [List.cons.injEq, and_true] at he
  obtain ⟨rfl, rfl⟩ := he
  have hlen : (sch (wordAt bs) t ++ List.replicate (80 - t) 0).length = 80 := by simp [sch_len]; omega
  have slt : ∀ i, (sch (wordAt bs) t).getD i 0 < B64 := getD_lt (sch_lt mlt t) (by decide)
  rw [ask_lssN]
  have rot : ∀ {a k : Nat} {K : Value → Prop}, a < B64 → 0 < k → k < 64 → K (U (rr a k)) → AskF X 147 [U a, .int .i64 (-(k : Int))] K := fun ha h0 h1 hK => call_PE hS (T := Ttk) (f := 147) rfl (_, _) ⟨ha, h0, h1⟩ hK
  refine a_ifD (fun hlt => ?_) fun hge => ?_
  · have sel : ∀ {i : Nat} {K : Value → Prop}, i < t → K (U ((sch (wordAt bs) t).getD i 0)) → Ask (rSel (aggArr (UA (sch (wordAt bs) t ++ List.replicate (80 - t) 0))) (0 + intNat (J i) * 1) 1 false) K := fun {i K} hi hK =>
      a_selU (k := i) (by rw [intNatJ]; omega) (by rw [hlen]; omega) (by rw [sched_get hi]; exact hK)
    rw [ask_subN (by omega) (by omega), ask_ixN (by omega)]
    refine sel (by omega) ?_
    rw [ask_subN (by omega) (by omega), ask_ixN (by omega)]
    refine sel (by omega) ?_
    refine rot (k := 19) (slt _) (by decide) (by decide) (rot (k := 61) (slt _) (by decide) (by decide) ?_)
    rw [ask_uxor (rr_lt _ (slt _)) (rr_lt _ (slt _)), ask_ushrU (by decide), ask_uxor (xor_lt (rr_lt _ (slt _)) (rr_lt _ (slt _))) (div_lt _ (slt _))]
    refine rot (k := 1) (slt _) (by decide) (by decide) (rot (k := 8) (slt _) (by decide) (by decide) ?_)
    rw [ask_uxor (rr_lt _ (slt _)) (rr_lt _ (slt _)), ask_ushrU (by decide), ask_uxor (xor_lt (rr_lt _ (slt _)) (rr_lt _ (slt _))) (div_lt _ (slt _))]
    rw [ask_subN (by omega) (by omega), ask_ixN (by omega)]
    refine sel (by omega) ?_
    rw [ask_uaddA, ask_uaddA, ask_subN (by omega) (by omega), ask_ixN (by omega)]
    refine sel (by omega) ?_
    rw [ask_uaddA, ask_ixN (by omega), ← nx_ge ht16]
    refine a_updU (k := t) (by rw [intNatJ]; omega) (by rw [hlen]; omega) ?_
    rw [ask_succ (by omega)]
    intro w2 hw2
    refine ⟨⟨t + 1, ?_, by omega, by omega, st9.stp hw2.stp bne, hw2.kn⟩, by simp [intNat]; omega⟩
    rw [show 80 - t = (80 - (t + 1)) + 1 by omega, sched_set]
  obtain rfl : t = 80 := by omega
  refine a_nilCheck (a_fadP hP fdW ?_)
  refine a_ldPA (cs := hs.map U) k9 (hP ▸ aggW8) (by rw [hP, szW8]; simp [hst.l8]) st9.row List.not_mem_nil (fun j c hj => ?_) ?_
  · have hj8 : j < 8 := by have := (List.getElem?_eq_some_iff.1 hj).1; simpa [hst.l8] using this
    simp only [List.getElem?_toArray, Nat.zero_add]
    rw [stC_h hst.l8 hj8, ← hj, List.getElem?_map, List.getElem?_eq_getElem (by rw [hst.l8]; exact hj8), List.getD_eq_getElem?_getD, List.getElem?_eq_getElem (by rw [hst.l8]; exact hj8)]; rfl
  intro b1 hb1
  have foldU : Value.agg (hs.map U).toArray = UA hs := rfl
  rw [foldU]
  refine a_aggU hst.l8 ?_
  iterate 8 refine a_selU rfl (by rw [hst.l8]; decide) ?_
  have hbw9 := st9.low
  have bne1 : b ∉ [b1] := by simp; omega
  have v0 := of_ok hst.hlt
  refine ⟨fun a w => ∃ t, a = [U (rnds (sch (wordAt bs) 80) t (V8.of hs)).a, U (rnds (sch (wordAt bs) 80) t (V8.of hs)).b, U (rnds (sch (wordAt bs) 80) t (V8.of hs)).c, U (rnds (sch (wordAt bs) 80) t (V8.of hs)).d, U (rnds (sch (wordAt bs) 80) t (V8.of hs)).e, U (rnds (sch (wordAt bs) 80) t (V8.of hs)).f, U (rnds (sch (wordAt bs) 80) t (V8.of hs)).g, U (rnds (sch (wordAt bs) 80) t (V8.of hs)).h, J t] ∧ t ≤ 80 ∧ StAt w b hs bs n ∧ b1 < w.heap.size ∧ Kn X w,
    fun a _ => match a with | [_, _, _, _, _, _, _, _, i] => 80 - intNat i | _ => 0, fun w hw => ⟨0, rfl, Nat.zero_le _, st9.stp hw.stp bne1, hw.low (by simp [kb138_2]), hw.kn⟩, ?_⟩
  rintro _ _ _ _ _ _ _ _ _ w32 ⟨t, he, ht, st32, lo32, k32⟩
  simp only [List.cons.injEq, and_true] at he
  obtain ⟨rfl, rfl, rfl, rfl, rfl, rfl, rfl, rfl, rfl⟩ := he
  have hv := rnds_ok (ws := sch (wordAt bs) 80) v0 t
  rw [ask_lssN]
  refine a_ifD (fun hlt => ?_) fun hge => ?_
  · generalize hvv : rnds (sch (wordAt bs) 80) t (V8.of hs) = v at hv ⊢
    obtain ⟨ha, hb, hc, hd, he, hf, hgg, hh⟩ := hv
    refine rot (k := 14) he (by decide) (by decide) (rot (k := 18) he (by decide) (by decide) ?_)
    rw [ask_uxor (rr_lt _ he) (rr_lt _ he)]
    refine rot (k := 41) he (by decide) (by decide) ?_
    rw [ask_uxor (xor_lt (rr_lt _ he) (rr_lt _ he)) (rr_lt _ he), ask_uaddA, ask_uand he hf, ask_unot he]
    have hne : B64 - 1 - v.e < B64 := by simp only [B64]; omega
    rw [ask_uand hne hgg, ask_uxor (and_lt _ he) (and_lt _ hne), ask_uaddA]
    refine a_iadP hP arK szU64 hlt ?_
    have tb := tabAt k32
    rw [ask_load_one (hP ▸ aggU64) tb.lt List.not_mem_nil (v := U (Ks.getD t 0)) (by have := tb.at_ t hlt; simpa using this) k32.some]
    rw [ask_uaddA, ask_ixN (by omega)]
    refine a_selU (k := t) (by rw [intNatJ]; omega) (by simp [sch_len]; omega) ?_
    have e80 : (sch (wordAt bs) 80 ++ List.replicate (80 - 80) 0).getD t 0 = (sch (wordAt bs) 80).getD t 0 := by simp
    rw [e80, ask_uaddA]
    refine rot (k := 28) ha (by decide) (by decide) (rot (k := 34) ha (by decide) (by decide) ?_)
    rw [ask_uxor (rr_lt _ ha) (rr_lt _ ha)]
    refine rot (k := 39) ha (by decide) (by decide) ?_
    rw [ask_uxor (xor_lt (rr_lt _ ha) (rr_lt _ ha)) (rr_lt _ ha), ask_uaddA, ask_uaddA, ask_uand ha hb, ask_uand ha hc, ask_uxor (and_lt _ ha) (and_lt _ ha), ask_uand hb hc, ask_uxor (xor_lt (and_lt _ ha) (and_lt _ ha)) (and_lt _ hb), ask_uaddA, ask_succ (by omega)]
    intro w2 hw2
    refine ⟨⟨t + 1, ?_, hlt, st32.stp hw2.stp List.not_mem_nil, Nat.lt_of_lt_of_le lo32 hw2.size, hw2.kn⟩, by simp [intNat]; omega⟩
    simp only [rnds, hvv]
    rfl
  obtain rfl : t = 80 := by omega
  iterate 8 rw [ask_uplain]
  have hcl := cpr_len (bs := bs) hst.l8
  refine ⟨fun a w => ∃ i, a = [J i] ∧ i ≤ 8 ∧ StAt w b ((cpr hs bs).take i ++ hs.drop i) bs n ∧ b1 < w.heap.size ∧ b0 < w.heap.size ∧ Kn X w, fun a _ => match a with | [i] => 8 - intNat i | _ => 0, fun w hw => ⟨0, rfl, Nat.zero_le _, st32.stp hw.stp List.not_mem_nil, Nat.lt_of_lt_of_le lo32 hw.size, hw.low (by simp [kb138_2]), hw.kn⟩, ?_⟩
  rintro _ w43 ⟨i, he, hi, st43, lo43, lo43', k43⟩
  simp only [List.cons.injEq, and_true] at he
  subst he
  rw [ask_lssN]
  refine a_ifD (fun hlt => ?_) fun hge => ?_
  · generalize hvv : rnds (sch (wordAt bs) 80) 80 (V8.of hs) = v
    have hcp := cpr_at (bs := bs) hst.l8 hlt
    rw [hvv] at hcp
    refine a_idx hP arW szU64 aggU64 hlt (cs := v.l.map U) (v := U (v.l.getD i 0)) (by rw [List.getElem?_map, List.getElem?_eq_getElem (show i < v.l.length from hlt), List.getD_eq_getElem?_getD, List.getElem?_eq_getElem (show i < v.l.length from hlt)]; rfl) ?_
    refine a_nilCheck (a_fadP hP fdW (a_iadP hP arW szU64 hlt ?_))
    have hgi := words_at (hs := hs) hcl hlt
    refine a_ldP k43 (hP ▸ aggU64) st43.row List.not_mem_nil (v := U (hs.getD i 0)) (by rw [List.getElem?_toArray, show 0 + 0 + i * 1 = i by omega, stC_h st43.l8 hlt, hgi]) ?_
    rw [ask_uaddA, ← hcp]
    refine a_nilCheck (a_fadP hP fdW (a_iadP hP arW szU64 hlt ?_))
    refine a_storeAt (x := U ((cpr hs bs).getD i 0)) (vs := [U ((cpr hs bs).getD i 0)]) hX.n hP szU64 rfl rfl rfl rfl rfl st43.row List.not_mem_nil mb (by simp [kb138_2]; omega) (by simp [stC_len st43.l8 st43.l128]; omega) fun _ w3 w4 h3 k4 s4 su4 row4 sz4 => ?_
    rw [ask_succ (by omega)]
    intro w5 hw5
    have h3s := h3.size
    have bw4 : b < w4.heap.size := (Array.getElem?_eq_some_iff.1 row4).1
    refine ⟨⟨i + 1, rfl, by omega, ?_, by have := hw5.size; omega, by have := hw5.size; omega, hw5.kn⟩, by simp [intNat]; omega⟩
    have st4 := st43.word row4 hlt (getD_lt cpr_lt (by decide) i)
    rw [words_step hcl hst.l8 hlt] at st4
    exact st4.stp hw5.stp List.not_mem_nil
  obtain rfl : i = 8 := by omega
  refine hR _ _ _ _ fun w hw => ⟨rfl, ?_⟩
  have := st43.stp hw.stp List.not_mem_nil
  rwa [List.take_of_length_le (by rw [hcl]; exact Nat.le_refl _), List.drop_of_length_le (by rw [hst.l8]; exact Nat.le_refl _), List.append_nil] at this
#print axioms keepsTake
end Go.Vc
