/-
  The sets in which there is no relation: unit lists, by a map, on the program's side.
-/
import Derived.Test.YtapkkciimlffnaaDoorDZip2
import Derived.Test.YtapkkciimlffnaaDoorDRm
import Derived.Test.YtapkkciimlffnaaDoorVcMut
namespace Go.Vc
open Go Go.Proofs Go.RowKit

/-- 1 in place k, 0 ahead of it. -/
def unitL (k : Nat) : List Nat := List.replicate k 0 ++ [1]
theorem unit_len (k : Nat) : (unitL k).length = k + 1 := by simp [unitL]
theorem unit_set (k : Nat) : (List.replicate (k + 1) 0).set k 1 = unitL k := by
  unfold unitL
  rw [List.replicate_succ', List.set_append_right _ _ (by simp)]
  simp
theorem unit_ok (k : Nat) : ∀ x ∈ unitL k, okS x := fun x hx => by
  simp only [unitL, List.mem_append, List.mem_replicate, List.mem_singleton] at hx
  rcases hx with ⟨_, rfl⟩ | rfl <;> (unfold okS; decide)
theorem unit_lt (k : Nat) : ∀ x ∈ unitL k, x < lN := fun x hx => by
  simp only [unitL, List.mem_append, List.mem_replicate, List.mem_singleton] at hx
  rcases hx with ⟨_, rfl⟩ | rfl <;> decide
theorem makeS (n : Nat) : (madeCells (Value.agg #[U 0, U 0, U 0, U 0]).cells (n * 4)).toList = (List.replicate n 0).flatMap encS := made_enc (α := Nat) (enc := encS) (a := 0) (s := 4) (by kernel_rfl) rfl (by decide) n

def ann14 : Ann := ⟨[], [], 70, [], [2], none, [], []⟩
theorem vc14 (X : Ctx) (β : Nat → Nat) (x0 : Value) : (run Tryd.prog ann14 14 [.x (.v 0)] [] [] 2).den X (env0 [x0] X.w0) 2 β 0 (fun _ _ _ => False) = (
  Ask (rAgg 4 (.agg #[(U 0), (U 0), (U 0), (U 0)])) fun _ =>
  AskNew X.w0 fun b0 =>
  Ask (rPlain x0) fun x3 =>
  Ask (rAgg 4 (.agg #[x3, (U 0), (U 0), (U 0)])) fun x4 =>
  Ret X X.w0 [b0] [] x4) := by kernel_rfl
theorem keepsSInt : Keeps1 Tryd.prog GT 14 cRInt := by
  refine keepsP (T := T0) (A := ann14) (fun a b _ _ h => U_inj' (by simpa using h)) hMix keepT0 hGT (calls_of (by kernel_rfl)) (callsW_of (by kernel_rfl)) fun n w0 hn _ => ⟨[.x (.v 0)], [], [], 2, env0 [U n] w0, fun b => b, 0, rfl, rfl, fun X hX => mem_none hX rfl, fun X hP hS hw hX hR => ?_⟩
  subst hw
  rw [vc14 X]
  rw [ask_zero4]; intro _ _
  rw [ask_uplain, S_small hn, ask_aggS]
  exact hR _ _ _ _ rfl

/-- Where a kind's generator has its 1. -/
def plc (k i n : Nat) : Nat := if k = 1 then 0 else if k = 2 then 1 else if k = 3 then 2 else if k = 4 then 3 + i else 3 + n + i
theorem tyFree : ElTy Tryd.prog 48 47 1 24 (.agg #[.slice none 0 0]) := ⟨by kernel_rfl, by kernel_rfl⟩
theorem mapTy : Tryd.prog.underlying 79 = some (.map 3 3) := by kernel_rfl
theorem intTy' : Tryd.prog.underlying 3 = some (.int .i64) := by kernel_rfl
theorem aggInt : agg? Tryd.prog 3 = some false := by kernel_rfl
theorem isKeyJ (n : Int) : MapKept.IsKey (.int .i64) (.int .i64 n) := by simp [MapKept.IsKey]

def ann42 : Ann := ⟨[], [14], 70, [], [], none, [], []⟩
def kb42_0 (b0 : Nat) : List KB := [⟨b0, true, 47, #[(.slice none 0 0)]⟩]
theorem vc42 (X : Ctx) (β : Nat → Nat) (x0 x1 x2 : Value) : (run Tryd.prog ann42 42 [.x (.v 0), .x (.v 1), .x (.v 2)] [] [] 4).den X (env0 [x0, x1, x2] X.w0) 4 β 0 (fun _ _ _ => False) = (
  AskNew X.w0 fun b0 =>
  AskO X X.w0 [] (kb42_0 b0) false (Go.Op.makeMap 79 Option.none) 79 [] fun x4 w4 =>
  AskO X w4 [] (kb42_0 b0) true (Go.Op.insert 79 (Go.Operand.tmp 8) (Go.Operand.const (Go.Value.int Go.IntKind.i64 1)) (Go.Operand.const (Go.Value.int Go.IntKind.i64 0))) 0 [(8, x4)] fun _ w5 =>
  AskO X w5 [] (kb42_0 b0) true (Go.Op.insert 79 (Go.Operand.tmp 8) (Go.Operand.const (Go.Value.int Go.IntKind.i64 2)) (Go.Operand.const (Go.Value.int Go.IntKind.i64 1))) 0 [(8, x4)] fun _ w6 =>
  AskO X w6 [] (kb42_0 b0) true (Go.Op.insert 79 (Go.Operand.tmp 8) (Go.Operand.const (Go.Value.int Go.IntKind.i64 3)) (Go.Operand.const (Go.Value.int Go.IntKind.i64 2))) 0 [(8, x4)] fun _ w7 =>
  Ask (rBin X.P .add 3 true false (J 3) x1) fun x8 =>
  AskO X w7 [] (kb42_0 b0) true (Go.Op.insert 79 (Go.Operand.tmp 8) (Go.Operand.const (Go.Value.int Go.IntKind.i64 4)) (Go.Operand.tmp 10)) 0 [(8, x4), (10, x8)] fun _ w9 =>
  Ask (rLoad X w9 [] 3 x2) fun x10 =>
  Ask (rBin X.P .add 3 true false (J 3) x10) fun x11 =>
  Ask (rBin X.P .add 3 false false x11 x1) fun x12 =>
  AskO X w9 [] (kb42_0 b0) true (Go.Op.insert 79 (Go.Operand.tmp 8) (Go.Operand.const (Go.Value.int Go.IntKind.i64 5)) (Go.Operand.tmp 14)) 0 [(8, x4), (14, x12)] fun _ w13 =>
  AskO X w13 [] (kb42_0 b0) false (Go.Op.lookup 79 (Go.Operand.tmp 15) (Go.Operand.tmp 16) Bool.false) 3 [(15, x4), (16, x0)] fun x14 w14 =>
  Ask (rBin X.P .add 3 false true x14 (J 1)) fun x15 =>
  AskO X w14 [] (kb42_0 b0) false (Go.Op.makeSlice 25 (Go.Operand.tmp 19) (Go.Operand.tmp 19)) 25 [(19, x15), (19, x15)] fun x16 w16 =>
  AskF X 14 [(U 1)] fun x17 =>
  Ask (rIad X.P 25 x16 x14) fun x18 =>
  AskO X w16 [] (kb42_0 b0) true (Go.Op.store 34 (Go.Operand.tmp 24) (Go.Operand.tmp 23)) 0 [(24, x18), (23, x17)] fun _ w19 =>
  Ask (rPlain x16) fun x20 =>
  Ask (rPlain x20) fun x21 =>
  Ret X w19 [b0] [] (.agg #[x21])) := by kernel_rfl
/-- The closure's arguments: kind and number, and where the set's size lies. -/
def cClo : Cods (Nat × Nat × Nat) := ⟨fun w l p => ∃ b, l = [J p.1, J p.2.1, .pointer (some ⟨b, 0, none⟩)] ∧ w.cell? ⟨b, 0, none⟩ = some (J p.2.2), fun w l ⟨k, i, n⟩ ⟨k', i', n'⟩ ⟨b, e, h⟩ ⟨b', e', h'⟩ => by
  dsimp only at e h e' h'
  rw [e] at e'
  simp only [List.cons.injEq, Value.pointer.injEq, Option.some.injEq, Addr.mk.injEq, and_true] at e'
  obtain ⟨e1, e2, rfl⟩ := e'
  rw [h] at h'
  obtain rfl := J_inj e1
  obtain rfl := J_inj e2
  obtain rfl := J_inj (Option.some.inj h')
  rfl⟩
def cBasisC : Contract := fnW cClo (fun p _ => 1 ≤ p.1 ∧ p.1 ≤ 5 ∧ p.2.1 ≤ 64 ∧ p.2.2 ≤ 64)
  (fun p w v w' => ∃ x, v = .agg #[x] ∧ w'.ownsRow w.heap.size 34 4 x (plc p.1 p.2.1 p.2.2 + 1) ((unitL (plc p.1 p.2.1 p.2.2)).flatMap encS))
def Tsi : Table := T0.add 14 cRInt
theorem keepTsi : AllKeep Tryd.prog GT Tsi := keepT0.add keepsSInt
theorem keepsBasisC : Keeps1 Tryd.prog GT 42 cBasisC := by
  refine keepsW (T := Tsi) (A := ann42) hMix keepTsi hGT (calls_of (by kernel_rfl)) (callsW_of (by kernel_rfl)) fun args ⟨k, i, n⟩ w0 hrd hpre _ => ?_
  obtain ⟨b, rfl, hcell⟩ := hrd
  dsimp only at hcell hpre
  obtain ⟨hk1, hk5, hi, hn⟩ := hpre
  refine ⟨[.x (.v 0), .x (.v 1), .x (.v 2)], [], [], 4, env0 [J k, J i, .pointer (some ⟨b, 0, none⟩)] w0, fun b => b, 0, rfl, rfl, fun X hX => mem_none hX rfl, fun X hP hS hw hX hR => ?_⟩
  subst hw; try dsimp only at hR
  rw [vc42 X]
  intro b0 hb0
  have off : ∀ {r : Nat} {w : World}, w.heap.size = r → b0 < w.heap.size → r ∉ (kb42_0 b0).map (·.b) := fun h1 h2 => by simp [kb42_0]; omega
  refine a_makeMap hX fun r w1 w2 h1 k1 s1 su1 hr row => ?_
  have hoff : r ∉ (kb42_0 b0).map (·.b) := off hr (h1.low (by simp [kb42_0]))
  have hr0 : X.w0.heap.size ≤ r := by have := h1.sz0; omega
  refine a_insert (key := J 1) (val := J 0) hX hP mapTy intTy' rfl rfl rfl row List.not_mem_nil hr0 hoff (isKeyJ _) rfl fun _ _ w3 _ k3 _ _ row3 => ?_
  refine a_insert (key := J 2) (val := J 1) hX hP mapTy intTy' rfl rfl rfl row3 List.not_mem_nil hr0 hoff (isKeyJ _) rfl fun _ _ w4 _ k4 _ _ row4 => ?_
  refine a_insert (key := J 3) (val := J 2) hX hP mapTy intTy' rfl rfl rfl row4 List.not_mem_nil hr0 hoff (isKeyJ _) rfl fun _ _ w5 _ k5 _ _ row5 => ?_
  rw [ask_addN (by omega)]
  refine a_insert (key := J 4) (val := J (3 + i)) hX hP mapTy intTy' rfl rfl rfl row5 List.not_mem_nil hr0 hoff (isKeyJ _) rfl fun _ _ w6 _ k6 _ _ row6 => ?_
  have hbl : b < X.w0.heap.size := World.block_lt_of_cell? X.w0 _ hcell
  rw [ask_load_one (hP ▸ aggInt) (Nat.lt_of_lt_of_le hbl k6.sz0) List.not_mem_nil (v := J n) (by rw [World.cell?_of_block (w := X.w0) ((k6.stp0 hX).past b hbl List.not_mem_nil)]; exact hcell) k6.some]
  rw [ask_addN (by omega), ask_addN (by omega)]
  refine a_insert (key := J 5) (val := J (3 + n + i)) hX hP mapTy intTy' rfl rfl rfl row6 List.not_mem_nil hr0 hoff (isKeyJ _) rfl fun _ _ w7 _ k7 _ _ row7 => ?_
  have hfind : ∃ j, Instr.findNow (.int .i64) (J k) ((((((#[] : Array MapEntry).push ⟨J 1, J 0, 0⟩).push ⟨J 2, J 1, 0 + 1⟩).push ⟨J 3, J 2, 0 + 1 + 1⟩).push ⟨J 4, J (3 + i), 0 + 1 + 1 + 1⟩).push ⟨J 5, J (3 + n + i), 0 + 1 + 1 + 1 + 1⟩).toList 0 = some (some (j, J (plc k i n))) := by
    have : k = 1 ∨ k = 2 ∨ k = 3 ∨ k = 4 ∨ k = 5 := by omega
    rcases this with rfl | rfl | rfl | rfl | rfl <;> exact ⟨_, rfl⟩
  obtain ⟨j, hfind⟩ := hfind
  refine a_lookup hP mapTy intTy' rfl rfl row7 List.not_mem_nil (isKeyJ _) hfind fun w8 h8 => ?_
  have hat : plc k i n ≤ 200 := by unfold plc; split <;> (try split) <;> (try split) <;> (try split) <;> omega
  generalize plc k i n = at_ at hat hR ⊢
  rw [ask_succ (by omega)]
  refine a_make (n := at_ + 1) hX hP tyS rfl rfl (by omega) (by simp only [maxLen]; omega) fun g w9 w10 h9 k10 s10 su10 o10 => ?_
  rw [makeS] at o10
  refine call_PE hS (T := Tsi) (f := 14) rfl 1 (show 1 < B64 by decide) ?_
  refine a_iadN hP tyS (own_slAt o10) (by omega) ?_
  have b0w : b0 < w9.heap.size := h9.low (by simp [kb42_0])
  have hg := o10.lt g rfl
  refine a_store (x := S 1) (vs := encS 1) hX hP szS rfl rfl rfl rfl (one_encS 1) o10 h9.sz0 (by omega) (by decide) (fun _ _ => List.not_mem_nil) (fun _ _ q hq => by cases hq; simp [kb42_0]; omega) fun _ w11 w12 h11 k12 s12 su12 o12 => ?_
  rw [lset_flat encS_len 1 _ at_ (by simp), unit_set] at o12
  refine a_plain rfl ?_
  refine a_plain rfl ?_
  have fin : X.w0.heap.size ≤ w9.heap.size := h9.sz0
  exact hR _ _ _ _ fun w hw => ⟨_, rfl, own_mono (own_stp o12 hw.stp fun q hq => by cases hq; simp; omega) fin⟩
#print axioms keepsBasisC
end Go.Vc
