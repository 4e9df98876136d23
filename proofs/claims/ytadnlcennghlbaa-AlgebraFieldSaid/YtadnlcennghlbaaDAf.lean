/-
  Solve at one equation over Seven; alive.
-/
import Derived.Test.YtadnlcennghlbaaDAe
namespace Go.Vc
open Go Go.Proofs Go.RowKit
abbrev Pv0 (b : Nat) : Value := .pointer (some ⟨b, 0, none⟩)
/-- The deferred closure, where its function returns: recover finds nothing. -/
theorem solve_idle (p q : Value) (w : World) : CallsD Try.prog 24 #[p, q] .returning w fun e u' w' => e = .returned (.tuple #[]) ∧ u' = .returning ∧ w' = w := by
  have hnn : ∀ w, (binOp .neq 20 .nilIface .nilIface).run Try.prog w = .ok (.bool false) w := fun w => by kernel_rfl
  refine callsD_of_wpS Try.func24 rfl fun c₀ cs hu => ?_
  apply wpS_seq
  apply wpS_region
  simp [wpOpsS, go_sem, recoverD, hu, Try.ntmps24, Exit.thenS]
  apply wpS_seq
  apply wpS_region
  simp [wpOpsS, go_sem, hnn, Exit.thenS]
  refine wpS_cond (t := false) (by simp [Act.eval, Array.replicate]) ?_
  simp only [Bool.false_eq_true, if_false]
  refine wpS_of_wp (wp_skip ?_)
  cases c₀
  simp_all [bodyPostS, results, Try.results24]
theorem solve_noop (p q : Value) : NoOp Try.prog ⟨.fn (.func 24) #[p, q], #[]⟩ :=
  ⟨_, _, 24, #[p, q], rfl, fun w => by kernel_rfl, fun w => (solve_idle p q w).mono fun e u' w' ⟨h1, h2, h3⟩ => ⟨⟨_, h1⟩, h2, h3⟩⟩
theorem ask_mkFn7 {P : Program} {K : Value → Prop} {f ty : Nat} {cs : Array Operand} {l : List (Nat × Value)} {ps : Array Value} (h : cs.map (argsFn l) = ps) : Ask (rGen P (.makeFunc (.func f) #[] cs) ty l) K = K (.func (.func f) #[] ps) :=
  ask_eq (runsN_iff fun w => by simp [execOp, Instr.makeFunc, h])
def ann8 : Ann := ⟨[(6, ([23], [])), (14, ([49], [])), (19, ([58], [0]))], [], 70, [(25, true)], [], none, [1000042], []⟩
def kb8_0 (b0 b1 : Nat) : List KB := [⟨b0, true, 24, #[(.slice none 0 0)]⟩, ⟨b1, true, 29, #[(J 2)]⟩]
def kb8_1 (b0 b1 : Nat) : List KB := [⟨b0, true, 24, #[(.slice none 0 0)]⟩, ⟨b1, true, 29, #[(J 0)]⟩]
def kb8_2 (b0 b1 : Nat) (x18 : Value) : List KB := [⟨b0, true, 24, #[x18]⟩, ⟨b1, true, 29, #[(J 0)]⟩]
def kb8_3 (b0 b1 : Nat) (x21 : Value) : List KB := [⟨b0, true, 24, #[x21]⟩, ⟨b1, true, 29, #[(J 0)]⟩]
theorem vc8 (X : Ctx) (β : Nat → Nat) (x0 x1 : Value) : (run Try.prog ann8 8 [.x (.v 0), .x (.v 1)] [] [] 3).den X (env0 [x0, x1] X.w0) 3 β 0 (fun _ _ _ => False) = (
 AskNew X.w0 fun b0 =>
 AskNew X.w0 fun b1 =>
 Ask (rLen X.P 24 x1) fun x3 =>
 Ask (rLen X.P 28 x0) fun x4 =>
 Ask (rBin X.P .neq 3 false false x4 x3) fun x5 =>
 (∃ t, x5 = .bool t) ∧ (x5 = .bool true →
 Ret X X.w0 [b1, b0] (kb8_0 b0 b1) (.tuple #[(.slice none 0 0), (J 2)])) ∧ (x5 = .bool false →
 AskO X X.w0 [] (kb8_1 b0 b1) false (Op.makeSlice 28 (Operand.tmp 19) (Operand.tmp 19)) 28 [(19, x3), (19, x3)] fun x6 w6 =>
 Ask (rLen X.P 28 x0) fun x7 =>
 ∃ (I0 : List Value → World → Prop) (μ0 : List Value → World → Nat), (∀ w, KnownV X w6 [] (kb8_1 b0 b1) w → I0 [(J 0)] w) ∧ ∀ x8 w9, I0 [x8] w9 →
 Ask (rBin X.P .lss 3 false false x8 x7) fun x10 =>
 (∃ t, x10 = .bool t) ∧ (x10 = .bool true →
 Ask (rIad X.P 28 x0 x8) fun x11 =>
 Ask (rLoad X w9 [] 24 x11) fun x12 =>
 Ask (rLen X.P 24 x12) fun x13 =>
 Ask (rBin X.P .neq 3 false false x13 x3) fun x14 =>
 (∃ t, x14 = .bool t) ∧ (x14 = .bool true →
 Ret X w9 [b1, b0] (kb8_0 b0 b1) (.tuple #[(.slice none 0 0), (J 2)])) ∧ (x14 = .bool false →
 ((
 Ask (rBin X.P .add 3 false true x3 (J 1)) fun x15 =>
 AskO X w9 [] (kb8_1 b0 b1) false (Op.makeSlice 24 (Operand.const (Value.int IntKind.i64 0)) (Operand.tmp 35)) 24 [(35, x15)] fun x16 w16 =>
 AskO X w16 [] (kb8_1 b0 b1) true (appOp (.tmp 36) (.tmp 37) 24) 24 [(36, x16), (37, x12)] fun x17 w17 =>
 Ask (rIad X.P 24 x1 x8) fun x18 =>
 Ask (rLoad X w17 [] 27 x18) fun x19 =>
 AskO X w17 [] (kb8_1 b0 b1) false (Op.buildSlice 24 1 #[(0, Operand.tmp 42)]) 24 [(42, x19)] fun x20 w20 =>
 AskO X w20 [] (kb8_1 b0 b1) true (appOp (.tmp 38) (.tmp 43) 24) 24 [(38, x17), (43, x20)] fun x21 w21 =>
 Ask (rIad X.P 28 x6 x8) fun x22 =>
 AskO X w21 [] (kb8_1 b0 b1) true (Op.store 24 (Operand.tmp 45) (Operand.tmp 44)) 0 [(45, x22), (44, x21)] fun _ w23 =>
 Ask (rBin X.P .add 3 false true x8 (J 1)) fun x24 =>
 Again X w23 [] [] fun w => I0 [x24] w ∧ μ0 [x24] w < μ0 [x8] w9) ∧ (
 ((
 ((
 Ask (rIad X.P 24 x1 x8) fun x15 =>
 Ask (rLoad X w9 [] 27 x15) fun x16 =>
 Ask (rBin X.P .add 3 false true x3 (J 1)) fun x17 =>
 AskO X w9 [] (kb8_1 b0 b1) false (Op.makeSlice 24 (Operand.const (Value.int IntKind.i64 0)) (Operand.tmp 35)) 24 [(35, x17)] fun x18 w18 =>
 AskO X w18 [] (kb8_1 b0 b1) true (appOp (.tmp 36) (.tmp 37) 24) 24 [(36, x18), (37, x12)] fun x19 w19 =>
 AskO X w19 [] (kb8_1 b0 b1) false (Op.buildSlice 24 1 #[(0, Operand.tmp 42)]) 24 [(42, x16)] fun x20 w20 =>
 AskO X w20 [] (kb8_1 b0 b1) true (appOp (.tmp 38) (.tmp 43) 24) 24 [(38, x19), (43, x20)] fun x21 w21 =>
 Ask (rIad X.P 28 x6 x8) fun x22 =>
 AskO X w21 [] (kb8_1 b0 b1) true (Op.store 24 (Operand.tmp 45) (Operand.tmp 44)) 0 [(45, x22), (44, x21)] fun _ w23 =>
 Ask (rBin X.P .add 3 false true x8 (J 1)) fun x24 =>
 Again X w23 [] [] fun w => I0 [x24] w ∧ μ0 [x24] w < μ0 [x8] w9) ∧ (
 Ask (rIad X.P 24 x1 x8) fun x15 =>
 Ask (rLoad X w9 [] 27 x15) fun x16 =>
 Ask (rBin X.P .add 3 false true x3 (J 1)) fun x17 =>
 AskO X w9 [] (kb8_1 b0 b1) false (Op.makeSlice 24 (Operand.const (Value.int IntKind.i64 0)) (Operand.tmp 35)) 24 [(35, x17)] fun x18 w18 =>
 AskO X w18 [] (kb8_1 b0 b1) false (Op.buildSlice 24 1 #[(0, Operand.tmp 42)]) 24 [(42, x16)] fun x19 w19 =>
 AskO X w19 [] (kb8_1 b0 b1) true (appOp (.tmp 36) (.tmp 37) 24) 24 [(36, x18), (37, x12)] fun x20 w20 =>
 AskO X w20 [] (kb8_1 b0 b1) true (appOp (.tmp 38) (.tmp 43) 24) 24 [(38, x20), (43, x19)] fun x21 w21 =>
 Ask (rIad X.P 28 x6 x8) fun x22 =>
 AskO X w21 [] (kb8_1 b0 b1) true (Op.store 24 (Operand.tmp 45) (Operand.tmp 44)) 0 [(45, x22), (44, x21)] fun _ w23 =>
 Ask (rBin X.P .add 3 false true x8 (J 1)) fun x24 =>
 Again X w23 [] [] fun w => I0 [x24] w ∧ μ0 [x24] w < μ0 [x8] w9))) ∧ (
 Ask (rIad X.P 24 x1 x8) fun x15 =>
 Ask (rLoad X w9 [] 27 x15) fun x16 =>
 AskO X w9 [] (kb8_1 b0 b1) false (Op.buildSlice 24 1 #[(0, Operand.tmp 42)]) 24 [(42, x16)] fun x17 w17 =>
 Ask (rBin X.P .add 3 false true x3 (J 1)) fun x18 =>
 AskO X w17 [] (kb8_1 b0 b1) false (Op.makeSlice 24 (Operand.const (Value.int IntKind.i64 0)) (Operand.tmp 35)) 24 [(35, x18)] fun x19 w19 =>
 AskO X w19 [] (kb8_1 b0 b1) true (appOp (.tmp 36) (.tmp 37) 24) 24 [(36, x19), (37, x12)] fun x20 w20 =>
 AskO X w20 [] (kb8_1 b0 b1) true (appOp (.tmp 38) (.tmp 43) 24) 24 [(38, x20), (43, x17)] fun x21 w21 =>
 Ask (rIad X.P 28 x6 x8) fun x22 =>
 AskO X w21 [] (kb8_1 b0 b1) true (Op.store 24 (Operand.tmp 45) (Operand.tmp 44)) 0 [(45, x22), (44, x21)] fun _ w23 =>
 Ask (rBin X.P .add 3 false true x8 (J 1)) fun x24 =>
 Again X w23 [] [] fun w => I0 [x24] w ∧ μ0 [x24] w < μ0 [x8] w9)))))) ∧ (x10 = .bool false →
 Ask (rGen X.P (Op.makeFunc (Fn.func 24) #[] #[Operand.tmp 4, Operand.tmp 5]) 1 [(4, (.pointer (some ⟨b0, 0, none⟩))), (5, (.pointer (some ⟨b1, 0, none⟩)))]) fun x11 =>
 AskD X x11 [] fun _ =>
 ∃ (I0 : List Value → World → Prop) (μ0 : List Value → World → Nat), (∀ w, KnownV X w9 [] (kb8_1 b0 b1) w → I0 [(J 0)] w) ∧ ∀ x13 w14, I0 [x13] w14 →
 Ask (rBin X.P .lss 3 false false x13 x3) fun x15 =>
 (∃ t, x15 = .bool t) ∧ (x15 = .bool true →
 AskW X w14 [] (kb8_1 b0 b1) true 25 [x6, x13] fun _ w16 =>
 Ask (rBin X.P .add 3 false true x13 (J 1)) fun x17 =>
 Again X w16 [] [] fun w => I0 [x17] w ∧ μ0 [x17] w < μ0 [x13] w14) ∧ (x15 = .bool false →
 Ask (rLen X.P 28 x6) fun x16 =>
 ∃ (I0 : List Value → World → Prop) (μ0 : List Value → World → Nat), (∀ w, KnownV X w14 [] (kb8_1 b0 b1) w → I0 [(J 0), (.slice none 0 0)] w) ∧ ∀ x17 x18 w19, I0 [x17, x18] w19 →
 Ask (rBin X.P .lss 3 false false x17 x16) fun x20 =>
 (∃ t, x20 = .bool t) ∧ (x20 = .bool true →
 Ask (rIad X.P 28 x6 x17) fun x21 =>
 Ask (rLoad X w19 [] 24 x21) fun x22 =>
 Ask (rIad X.P 24 x22 x3) fun x23 =>
 Ask (rLoad X w19 [] 27 x23) fun x24 =>
 AskO X w19 [] (kb8_2 b0 b1 x18) false (Op.buildSlice 24 1 #[(0, Operand.tmp 66)]) 24 [(66, x24)] fun x25 w25 =>
 AskO X w25 [] (kb8_2 b0 b1 x18) true (appOp (.tmp 62) (.tmp 67) 24) 24 [(62, x18), (67, x25)] fun x26 w26 =>
 Ask (rPlain x26) fun x27 =>
 Ask (rBin X.P .add 3 false true x17 (J 1)) fun x28 =>
 Again X w26 [b0] [] fun w => I0 [x28, x27] w ∧ μ0 [x28, x27] w < μ0 [x17, x18] w19) ∧ (x20 = .bool false →
 Ask (rPlain x18) fun x21 =>
 Ret X w19 [b1, b0] (kb8_3 b0 b1 x21) (.tuple #[x21, (J 0)])))))) := by kernel_rfl
def cLL7 : Cod (List (List Int)) := cLL cL7
def c7Sv : Contract := fnW (Cods.cons cLL7 (Cods.cons cL7 Cods.nil)) (fun p _ => p.1 = [[3]] ∧ p.2.1 = [5]) (fun _ w v w' => ∃ x, v = .tuple #[x, J 0] ∧ w'.ownsRow w.heap.size 27 1 x 1 [J 25])
def TA7s : Table := TA0.add 25 cClear
theorem keepTA7s : AllKeep Try.prog GA TA7s := keepTA0.add keepsClear
theorem own_form {w : World} {base e n : Nat} {v : Value} {xs : List Value} (h : w.ownsRow base e 1 v (n + 1) xs) : ∃ g c cur, v = Row g (n + 1) c ∧ base ≤ g ∧ w.heap[g]? = some (.cells cur e (0, 0)) ∧ n + 1 ≤ c ∧ c ≤ maxLen ∧ ∀ (i : Nat), i < n + 1 → cur[i]? = xs[i]? := by
  rcases h.2 with ⟨_, h0⟩ | ⟨g, c, cur, hv, hb, hg, h1, h2, _, h4⟩
  · omega
  · refine ⟨g, c, cur, hv, hb, hg, h1, h2, fun i hi => ?_⟩
    rw [← h4, ← Array.getElem?_toList, List.getElem?_take_of_lt (by omega)]
theorem clr_get {ys : Array Value} (h : 2 ≤ ys.size) : (clrAt ys 2)[0]? = some (J 15) ∧ (clrAt ys 2)[1]? = some (J 25) := by
  have s1 : (splice ys 0 [J 15]).size = ys.size := sp_size (by omega)
  constructor
  · show (splice (splice ys 0 [J 15]) 1 [J 25])[0]? = _
    rw [sp_get (by omega), if_neg (by decide), sp_get (by omega), if_pos rfl]
  · show (splice (splice ys 0 [J 15]) 1 [J 25])[1]? = _
    rw [sp_get (by omega), if_pos rfl]
set_option maxHeartbeats 4000000 in
theorem keeps7Sv : Keeps1 Try.prog GA 8 c7Sv := by
  refine keepsW (T := TA7s) (A := ann8) hMix keepTA7s hGA (calls_of (by kernel_rfl)) (callsW_of (by kernel_rfl)) fun args ⟨rs, r, _⟩ w0 hrd hpre hg => ?_
  obtain ⟨x0, _, rfl, hrs, x1, _, rfl, hr1, rfl⟩ := hrd
  obtain ⟨e1, e2⟩ := hpre
  dsimp only at e1 e2 hrs hr1
  subst e1 e2
  obtain ⟨vs, hsl, hlen, hel⟩ := (hrs : LLs cL7 w0 x0 [[3]])
  match vs, hlen with
  | [rv], _ =>
  have hrv : Ls7 w0 rv [3] := hel 0 rv [3] rfl rfl
  have hrs0 : SlAt w0 rv 1 [J 3] := hrv.1
  have hrt0 : SlAt w0 x1 1 [J 5] := (show Ls7 w0 x1 [5] from hr1).1
  have hsl0 : SlAt w0 x0 1 [rv] := hsl
  clear hr1 hel hsl
  refine ⟨[.x (.v 0), .x (.v 1)], [], [], 3, env0 [x0, x1] w0, fun b => b, 0, rfl, rfl, fun X hX => mem_none hX rfl, fun X hP hS hw hX hR => ?_⟩
  subst hw; try dsimp only at hR
  rw [vc8 X]
  intro b0 hb0 b1 hb1
  refine a_len (n := 1) hP ty7 hrt0 (a_len (n := 1) hP ty77 hsl0 ?_)
  rw [ask_neqN, decide_eq_true rfl]
  refine a_if (fun h => by cases h) fun _ => ?_
  refine a_make (n := 1) hX hP ty77 (by simp [argsFn]) (by simp [argsFn]) (by decide) (by decide) fun g u1 w1 h1 k1 s1 su1 o1 => ?_
  have low : ∀ {b : Nat}, b ∈ [b0, b1] → b < u1.heap.size := fun hb => h1.low (by simpa [kb8_1] using hb)
  have l0 : b0 < u1.heap.size := low (by simp)
  have l1 : b1 < u1.heap.size := low (by simp)
  have gb : u1.heap.size ≤ g ∧ g < w1.heap.size := o1.lt g rfl
  rw [show (madeCells (Value.slice none 0 0).cells (1 * 1)).toList = [.slice none 0 0] by kernel_rfl] at o1
  refine a_len (n := 1) hP ty77 hsl0 ?_
  refine ⟨fun q w => ∃ i, q = [J i] ∧ Kn X w ∧ w1.heap.size ≤ w.heap.size ∧ ((i = 0 ∧ w.ownsRow u1.heap.size 24 1 (Row g 1 1) 1 [.slice none 0 0]) ∨ (i = 1 ∧ ∃ row, w.ownsRow u1.heap.size 24 1 (Row g 1 1) 1 [row] ∧ w.ownsRow u1.heap.size 27 1 row 2 [J 3, J 5])), fun q _ => match q with | i :: _ => 1 - intNat i | _ => 0, fun w hw => ⟨0, rfl, hw.kn, hw.size, .inl ⟨rfl, own_stp0 o1 hw.stp⟩⟩, ?_⟩
  rintro _ w9 ⟨i, he, hk9, hz9, hcase⟩
  simp only [List.cons.injEq, and_true] at he
  subst he
  have hs9 := hk9.stp0 hX
  rw [ask_lssN]
  refine a_ifD (fun hlt => ?_) fun hge => ?_
  · obtain ⟨rfl, om⟩ := hcase.resolve_right fun h => by have := h.1; omega
    refine a_iadN (i := 0) hP ty77 (hsl0.stp0 hs9) (by decide) ?_
    refine a_load_one (c := rv) hk9 (hsl0.stp0 hs9) (by rw [hP]; exact aggL7) (fun _ _ => List.not_mem_nil) rfl ?_
    refine a_len (n := 1) hP ty7 hrs0 ?_
    rw [ask_neqN, decide_eq_true rfl]
    refine a_if (fun h => by cases h) fun _ => ?_
    have nb : ∀ {u w : World} {v : Value} {n : Nat} {xs : List Value}, u.ownsRow w9.heap.size 27 1 v n xs → KnownV X u [] (kb8_1 b0 b1) w → ∀ q, v.ownBlock = some q → q ∉ (kb8_1 b0 b1).map (·.b) := fun o _ q hq hm => by
      have := (o.lt q hq).1
      simp only [kb8_1, List.map_cons, List.map_nil, List.mem_cons, List.not_mem_nil, or_false] at hm
      omega
    have sub9 : ∀ {u w : World} {v : Value} {n : Nat} {xs : List Value}, Stp [] w9 u → u.ownsRow w9.heap.size 27 1 v n xs → Stp v.ownBlock.toList u w → Stp [] w9 w := fun h o hs => (h.trans hs).drop fun q hq => by
      simp only [List.nil_append, Option.mem_toList] at hq
      exact (o.lt q hq).1
    have mkR : ∀ {u : World} {KW : Value → World → Prop}, Stp [] w9 u → (∀ v w', Kn X w' → Stp [] u w' → w'.ownsRow w9.heap.size 27 1 v 0 [] → (∀ q, v.ownBlock = some q → u.heap.size ≤ q) → KW v w') → AskO X u [] (kb8_1 b0 b1) false (.makeSlice 24 (.const (.int .i64 0)) (.tmp 35)) 24 [(35, J 2)] KW := fun {u KW} h hK =>
      a_makeRoom (c := 2) hX hP ty7 (by simp [argsFn]) (by simp [argsFn]) (by decide) (by decide) fun v w w' hw hk hs hsu o => hK v w' hk hsu (own_mono o (Nat.le_trans h.size hw.size)) fun q hq => Nat.le_trans hw.size (o.lt q hq).1
    have bld : ∀ {u : World} {KW : Value → World → Prop}, (∀ x w', Kn X w' → Stp [] u w' → SlAt w' x 1 [J 5] → (∀ q, x.ownBlock = some q → u.heap.size ≤ q ∧ q < w'.heap.size) → KW x w') → AskO X u [] (kb8_1 b0 b1) false (.buildSlice 24 1 #[(0, .tmp 42)]) 24 [(42, S7 5)] KW := fun {u KW} hK =>
      a_build #[J 5] hX hP ty7 (by decide) (by decide) (by kernel_rfl) rfl (by decide) fun g' w w' hw hk hs hsu o => hK _ w' hk hsu (own_slAt o) fun q hq => ⟨Nat.le_trans hw.size (o.lt q hq).1, (o.lt q hq).2⟩
    have apd1 : ∀ {u : World} {v : Value} {KW : Value → World → Prop}, Stp [] w9 u → u.ownsRow w9.heap.size 27 1 v 0 [] → (∀ v' w', Kn X w' → Stp v.ownBlock.toList u w' → w'.ownsRow w9.heap.size 27 1 v' 1 [J 3] → KW v' w') → AskO X u [] (kb8_1 b0 b1) true (appOp (.tmp 36) (.tmp 37) 24) 24 [(36, v), (37, rv)] KW := fun {u v KW} h o hK =>
      a_append (m := 1) (ys := [J 3]) hX hP ty7 (by simp [argsFn]) (by simp [argsFn]) rfl (by decide) hk9.sz0 h.size o (fun w hw => hrs0.stp0 (hs9.trans0 (h.trans0 hw.stp))) rfl (by simp [Value.oneCell']) (fun _ _ => List.not_mem_nil) (fun w hw => nb o hw) (by decide) (by decide) fun v' w w' hw hk hs hsu o' _ => hK v' w' hk (by simpa using hsu) o'
    have apd2 : ∀ {u : World} {v x : Value} {KW : Value → World → Prop}, Stp [] w9 u → u.ownsRow w9.heap.size 27 1 v 1 [J 3] → SlAt u x 1 [J 5] → (∀ v' w', Kn X w' → Stp v.ownBlock.toList u w' → w'.ownsRow w9.heap.size 27 1 v' 2 [J 3, J 5] → KW v' w') → AskO X u [] (kb8_1 b0 b1) true (appOp (.tmp 38) (.tmp 43) 24) 24 [(38, v), (43, x)] KW := fun {u v x KW} h o hx hK =>
      a_append (m := 1) (ys := [J 5]) hX hP ty7 (by simp [argsFn]) (by simp [argsFn]) rfl (by decide) hk9.sz0 h.size o (fun w hw => hx.stp0 hw.stp) rfl (by simp [Value.oneCell']) (fun _ _ => List.not_mem_nil) (fun w hw => nb o hw) (by decide) (by decide) fun v' w w' hw hk hs hsu o' _ => hK v' w' hk (by simpa using hsu) o'
    have ldr : ∀ {u : World} {K : Value → Prop}, Kn X u → Stp [] w9 u → K (S7 5) → Ask (rIad X.P 24 x1 (J 0)) fun p => Ask (rLoad X u [] 27 p) K := fun {u K} hk hs hK => by
      have h5 : SlAt u x1 ([5] : List Int).length (([5] : List Int).flatMap encS7) := hrt0.stp0 (hs9.trans0 hs)
      exact ld_S7 hP hk h5 (by decide) (fun _ _ => List.not_mem_nil) hK
    have fin : ∀ {u : World} {v : Value} {G : Value → World → Prop}, Stp [] w9 u → u.ownsRow w9.heap.size 27 1 v 2 [J 3, J 5] →
        (∀ w2, Kn X w2 → w1.heap.size ≤ w2.heap.size → (∃ row, w2.ownsRow u1.heap.size 24 1 (Row g 1 1) 1 [row] ∧ w2.ownsRow u1.heap.size 27 1 row 2 [J 3, J 5]) → G (J 1) w2) →
        Ask (rIad X.P 28 (Row g 1 1) (J 0)) fun x22 => AskO X u [] (kb8_1 b0 b1) true (.store 24 (.tmp 45) (.tmp 44)) 0 [(45, x22), (44, v)] fun _ w23 => Ask (rBin X.P .add 3 false true (J 0) (J 1)) fun x24 => Again X w23 [] [] (G x24) := fun {u v G} hs ov hI => by
      have omu := own_stp0 om hs
      refine a_iadN (i := 0) hP ty77 (own_slAt omu) (by decide) ?_
      refine a_store (o := 0) (vs := [v]) hX hP szL7 rfl rfl (by rcases own_form ov with ⟨_, _, _, rfl, _⟩; rfl) rfl (by simp [own_one ov]) omu h1.sz0 (by decide) (by decide) (fun _ _ => List.not_mem_nil) (fun w hw q hq hm => ?_) fun _ w w' hw hk hs' hsu o' => ?_
      · simp [Value.ownBlock] at hq
        simp only [kb8_1, List.map_cons, List.map_nil, List.mem_cons, List.not_mem_nil, or_false] at hm
        omega
      · rw [ask_succ (by decide)]
        intro w2 hw2
        have gz : g < w9.heap.size := by omega
        have ov' := own_stp ov hsu (fun q hq hm => by
          have h6 := (ov.lt q hq).1
          simp [Value.ownBlock] at hm; omega)
        refine hI w2 hw2.kn (Nat.le_trans hz9 (Nat.le_trans hs.size (Nat.le_trans hsu.size hw2.size))) ⟨v, own_stp0 o' hw2.stp, own_mono (own_stp0 ov' hw2.stp) ?_⟩
        have := s1.size
        have := h1.size
        omega
    have done : ∀ {w2 : World}, Kn X w2 → w1.heap.size ≤ w2.heap.size → (∃ row, w2.ownsRow u1.heap.size 24 1 (Row g 1 1) 1 [row] ∧ w2.ownsRow u1.heap.size 27 1 row 2 [J 3, J 5]) → (∃ i, [J 1] = [J i] ∧ Kn X w2 ∧ w1.heap.size ≤ w2.heap.size ∧ ((i = 0 ∧ w2.ownsRow u1.heap.size 24 1 (Row g 1 1) 1 [.slice none 0 0]) ∨ (i = 1 ∧ ∃ row, w2.ownsRow u1.heap.size 24 1 (Row g 1 1) 1 [row] ∧ w2.ownsRow u1.heap.size 27 1 row 2 [J 3, J 5]))) ∧ 1 - intNat (J 1) < 1 - intNat (J 0) := fun hk hz h => ⟨⟨1, rfl, hk, hz, .inr ⟨rfl, h⟩⟩, by simp [intNat]⟩
    have off : ∀ {v x : Value} {m : Nat}, (∀ q, v.ownBlock = some q → q < m) → (∀ q, x.ownBlock = some q → m ≤ q) → ∀ q, x.ownBlock = some q → q ∉ v.ownBlock.toList := fun h1 h2 q hq hm => by
      have := h2 q hq
      have := h1 q (by simpa using hm)
      omega
    refine ⟨?_, ⟨⟨?_, ?_⟩, ?_⟩⟩
    · rw [ask_addN (by decide)]
      refine mkR (Stp.refl _ _) fun v16 w16 k16 s16 o16 _ => ?_
      refine apd1 s16 o16 fun v17 w17 k17 s17 o17 => ?_
      have t17 := sub9 s16 o16 s17
      refine ldr k17 t17 ?_
      refine bld fun x20 w20 k20 s20 sl20 _ => ?_
      refine apd2 (t17.trans0 s20) (own_stp0 o17 s20) sl20 fun v21 w21 k21 s21 o21 => ?_
      exact fin (sub9 (t17.trans0 s20) (own_stp0 o17 s20) s21) o21 fun w2 a b c => done a b c
    · refine ldr hk9 (Stp.refl _ _) ?_
      rw [ask_addN (by decide)]
      refine mkR (Stp.refl _ _) fun v16 w16 k16 s16 o16 _ => ?_
      refine apd1 s16 o16 fun v17 w17 k17 s17 o17 => ?_
      have t17 := sub9 s16 o16 s17
      refine bld fun x20 w20 k20 s20 sl20 _ => ?_
      refine apd2 (t17.trans0 s20) (own_stp0 o17 s20) sl20 fun v21 w21 k21 s21 o21 => ?_
      exact fin (sub9 (t17.trans0 s20) (own_stp0 o17 s20) s21) o21 fun w2 a b c => done a b c
    · refine ldr hk9 (Stp.refl _ _) ?_
      rw [ask_addN (by decide)]
      refine mkR (Stp.refl _ _) fun v16 w16 k16 s16 o16 _ => ?_
      refine bld fun x20 w20 k20 s20 sl20 z20 => ?_
      have o20 := own_stp0 o16 s20
      refine apd1 (s16.trans0 s20) o20 fun v17 w17 k17 s17 o17 => ?_
      have t17 := sub9 (s16.trans0 s20) o20 s17
      refine apd2 t17 o17 (sl20.stp s17 (off (fun q hq => (o16.lt q hq).2) fun q hq => (z20 q hq).1)) fun v21 w21 k21 s21 o21 => ?_
      exact fin (sub9 t17 o17 s21) o21 fun w2 a b c => done a b c
    · refine ldr hk9 (Stp.refl _ _) ?_
      refine bld fun x20 w20 k20 s20 sl20 z20 => ?_
      rw [ask_addN (by decide)]
      refine mkR s20 fun v16 w16 k16 s16 o16 z16 => ?_
      refine apd1 (s20.trans0 s16) o16 fun v17 w17 k17 s17 o17 => ?_
      have t17 := sub9 (s20.trans0 s16) o16 s17
      refine apd2 t17 o17 ((sl20.stp0 s16).stp s17 (fun q hq hm => by
        have h6 := (z20 q hq).2
        have h7 := z16 q (by simpa using hm)
        omega)) fun v21 w21 k21 s21 o21 => ?_
      exact fin (sub9 t17 o17 s21) o21 fun w2 a b c => done a b c
  · obtain ⟨rfl, row, om, orow⟩ := hcase.resolve_left fun h => by have := h.1; omega
    rw [ask_mkFn7 (ps := #[Pv0 b0, Pv0 b1]) (by simp [argsFn])]
    refine ⟨⟨_, fun w => rfl, by rw [hP]; exact solve_noop _ _⟩, fun _ _ => ?_⟩
    obtain ⟨g', c', xs, em, _, hg', _, _, hx⟩ := own_form om
    simp only [Value.slice.injEq, Option.some.injEq, Addr.mk.injEq, and_true, true_and] at em
    obtain ⟨rfl, rfl⟩ := em
    obtain ⟨gr, cr, ys, rfl, hgr, hyr, hc1, hc2, hy⟩ := own_form orow
    have lr := (Array.getElem?_eq_some_iff.1 hyr).1
    have lg : g < w9.heap.size := by omega
    have sy : 2 ≤ ys.size := by
      have := hy 1 (by decide)
      have := (Array.getElem?_eq_some_iff.1 (show ys[1]? = some (J 5) from this)).1
      omega
    refine ⟨fun q w => ∃ i, q = [J i] ∧ Kn X w ∧ w9.heap.size ≤ w.heap.size ∧ w.heap[g]? = some (.cells xs 24 (0, 0)) ∧ ((i = 0 ∧ w.heap[gr]? = some (.cells ys 27 (0, 0))) ∨ (i = 1 ∧ w.heap[gr]? = some (.cells (clrAt ys 2) 27 (0, 0)))), fun q _ => match q with | i :: _ => 1 - intNat i | _ => 0, fun w hw => ⟨0, rfl, hw.kn, hw.size, by rw [hw.stp.past g lg List.not_mem_nil]; exact hg', .inl ⟨rfl, by rw [hw.stp.past gr lr List.not_mem_nil]; exact hyr⟩⟩, ?_⟩
    rintro _ w14 ⟨i, he, hk14, hz14, hm14, hcase⟩
    simp only [List.cons.injEq, and_true] at he
    subst he
    rw [ask_lssN]
    have nbk : ∀ {q : Nat}, u1.heap.size ≤ q → q ∉ (kb8_1 b0 b1).map (·.b) := fun h hm => by
      simp only [kb8_1, List.map_cons, List.map_nil, List.mem_cons, List.not_mem_nil, or_false] at hm
      omega
    have mine : ∀ {q : Nat}, u1.heap.size ≤ q → X.mine q := fun h => (hX _).2 (Nat.le_trans h1.sz0 h)
    refine a_ifD (fun hlt => ?_) fun hge => ?_
    · obtain ⟨rfl, hr14⟩ := hcase.resolve_right fun h => by have := h.1; omega
      refine call_M hX.n hS (T := TA7s) (f := 25) rfl ⟨g, 1, xs, gr, cr, ys⟩ (fun w hw => ⟨⟨rfl, ?_, hx 0 (by decide), ?_⟩, ⟨Nat.le_refl 1, show 1 ≤ maxLen by decide⟩, ⟨hc1, hc2⟩, hy 0 (by decide), hy 1 (by decide)⟩) [g, gr] (fun b hb => by
        rcases hb with rfl | rfl <;> simp) (fun b hb => by
        simp only [List.mem_cons, List.not_mem_nil, or_false] at hb
        rcases hb with rfl | rfl
        · exact ⟨mine gb.1, nbk gb.1⟩
        · exact ⟨mine hgr, nbk hgr⟩) fun v w w' hw hk hs hsu hp => ?_
      · show w.heap[g]? = _
        rw [hw.stp.past g (by omega) List.not_mem_nil]; exact hm14
      · show w.heap[gr]? = _
        rw [hw.stp.past gr (by omega) List.not_mem_nil]; exact hr14
      obtain ⟨_, hp1, hp2⟩ := hp
      dsimp only at hp1 hp2
      rw [ask_succ (by decide)]
      intro w2 hw2
      have zw := hsu.size
      refine ⟨⟨1, rfl, hw2.kn, by have := hw2.size; omega, ?_, .inr ⟨rfl, ?_⟩⟩, by simp [intNat]⟩
      · rw [hw2.stp.past g (by omega) List.not_mem_nil]; exact hp1
      · rw [hw2.stp.past gr (by omega) List.not_mem_nil]; exact hp2
    · obtain ⟨rfl, hr14⟩ := hcase.resolve_left fun h => by have := h.1; omega
      have slm : ∀ {w : World}, w.heap[g]? = some (.cells xs 24 (0, 0)) → SlAt w (Row g 1 1) 1 [Row gr 2 cr] := fun h => row_slAt h ⟨by decide, by decide⟩ (fun i x hi => by
        match i with
        | 0 => rw [hx 0 (by decide)]; exact hi
        | i + 1 => simp at hi)
      have slr : ∀ {w : World}, w.heap[gr]? = some (.cells (clrAt ys 2) 27 (0, 0)) → SlAt w (Row gr 2 cr) 2 [J 15, J 25] := fun h => row_slAt h ⟨hc1, hc2⟩ (fun i x hi => by
        match i with
        | 0 => simp at hi; subst hi; exact (clr_get sy).1
        | 1 => simp at hi; subst hi; exact (clr_get sy).2
        | i + 2 => simp at hi)
      refine a_len (n := 1) hP ty77 (slm hm14) ?_
      refine ⟨fun q w => ∃ i v, q = [J i, v] ∧ Kn X w ∧ w14.heap.size ≤ w.heap.size ∧ w.heap[g]? = some (.cells xs 24 (0, 0)) ∧ w.heap[gr]? = some (.cells (clrAt ys 2) 27 (0, 0)) ∧ ((i = 0 ∧ v = .slice none 0 0) ∨ (i = 1 ∧ w.ownsRow u1.heap.size 27 1 v 1 [J 25])), fun q _ => match q with | i :: _ => 1 - intNat i | _ => 0, fun w hw => ⟨0, _, rfl, hw.kn, hw.size, by rw [hw.stp.past g (by omega) List.not_mem_nil]; exact hm14, by rw [hw.stp.past gr (by omega) List.not_mem_nil]; exact hr14, .inl ⟨rfl, rfl⟩⟩, ?_⟩
      rintro _ _ w19 ⟨i, v, he, hk19, hz19, hm19, hr19, hcase⟩
      simp only [List.cons.injEq, and_true] at he
      obtain ⟨rfl, rfl⟩ := he
      rw [ask_lssN]
      refine a_ifD (fun hlt => ?_) fun hge => ?_
      · obtain ⟨rfl, rfl⟩ := hcase.resolve_right fun h => by have := h.1; omega
        refine a_iadN (i := 0) hP ty77 (slm hm19) (by decide) ?_
        refine a_load_one (c := Row gr 2 cr) hk19 (slm hm19) (by rw [hP]; exact aggL7) (fun _ _ => List.not_mem_nil) rfl ?_
        refine a_iadN (i := 1) hP ty7 (slr hr19) (by decide) ?_
        refine a_load_agg (cs := [J 25]) hk19 (slr hr19) (by rw [hP]; exact agg7) (by rw [hP]; exact sz7) (fun _ _ => List.not_mem_nil) (by simp) (fun j c hj => by
          match j with
          | 0 => simpa using hj
          | j + 1 => simp at hj) ?_
        refine a_push (k := 1) (n := 0) (xs := []) (base := u1.heap.size) #[J 25] hX hP ty7 (by decide) rfl (by decide) (by decide) (by decide) (by kernel_rfl) rfl (by simp [Value.oneCell']) (by kernel_rfl) h1.sz0 (by omega) (World.ownsRow_nil _ _ _ _) (by decide) (by decide) fun v' w' hk' hs' o' hbl => ?_
        have hs0 : Stp [] w19 w' := by simpa [Value.ownBlock] using hs'
        refine a_plain (own_one o') ?_
        rw [ask_succ (by decide)]
        intro w2 hw2
        have hn : ∀ q, v'.ownBlock = some q → q ∉ [b0] := fun q hq hm => by
          simp only [List.mem_singleton] at hm
          have := (o'.lt q hq).1
          omega
        have zw := hs0.size
        refine ⟨⟨1, v', rfl, hw2.kn, by have := hw2.size; omega, ?_, ?_, .inr ⟨rfl, ?_⟩⟩, by simp [intNat]⟩
        · rw [hw2.stp.past g (by omega) (by simp; omega), hs0.past g (by omega) List.not_mem_nil]; exact hm19
        · rw [hw2.stp.past gr (by omega) (by simp; omega), hs0.past gr (by omega) List.not_mem_nil]; exact hr19
        · have := own_stp o' hw2.stp hn
          simpa using this
      · obtain ⟨rfl, ov⟩ := hcase.resolve_left fun h => by have := h.1; omega
        refine a_plain (own_one ov) ?_
        refine hR _ _ _ _ fun w hw => ⟨_, rfl, own_mono (own_stp ov hw.stp fun q hq hm => ?_) h1.sz0⟩
        have := (ov.lt q hq).1
        simp at hm; omega
#print axioms keeps7Sv
/-! ### alive -/
def ann6 : Ann := ⟨[], [10], 70, [(8, false), (23, false)], [], none, [], []⟩
theorem vc6 (X : Ctx) (β : Nat → Nat)  : (run Try.prog ann6 6 [] [] [] 1).den X (env0 [] X.w0) 1 β 0 (fun _ _ _ => False) = (
 AskO X X.w0 [] [] false (Op.buildSlice 24 1 #[(0, Operand.tmp 5)]) 24 [(5, (.agg #[(J 3)]))] fun x1 w1 =>
 AskO X w1 [] [] false (Op.buildSlice 28 1 #[(0, Operand.tmp 6)]) 28 [(6, x1)] fun x2 w2 =>
 AskO X w2 [] [] false (Op.buildSlice 24 1 #[(0, Operand.tmp 8)]) 24 [(8, (.agg #[(J 5)]))] fun x3 w3 =>
 AskW X w3 [] [] false 8 [x2, x3] fun x4 w4 =>
 Ask (rExt X.P x4 0) fun x5 =>
 Ask (rExt X.P x4 1) fun x6 =>
 AskO X w4 [] [] false (Op.buildSlice 24 2 #[(0, Operand.tmp 13), (1, Operand.tmp 14)]) 24 [(13, (.agg #[(J 2)])), (14, (.agg #[(J 3)]))] fun x7 w7 =>
 AskW X w7 [] [] false 23 [x7, (.agg #[(J 4)])] fun x8 w8 =>
 AskNew w8 fun b0 =>
 Ask (rAgg 1 x8) fun x9 =>
 Ask (rSel (aggArr x9) 0 1 false) fun x10 =>
 Ask (rBin X.P .eql 29 false true x6 (J 0)) fun x11 =>
 AskG [(x11, true)] (rLen X.P 24 x5) fun x12 =>
 AskG [(x11, true)] (rBin X.P .eql 3 false true x12 (J 1)) fun x13 =>
 Ask (rPick x11 x13 (.bool false)) fun x14 =>
 AskG [(x14, true)] (rIad X.P 24 x5 (J 0)) fun x15 =>
 AskG [(x14, true)] (rLoad X w8 [b0] 27 x15) fun x16 =>
 AskGF X [(x14, true)] 10 [x16] fun x17 =>
 AskG [(x14, true)] (rBin X.P .eql 3 false true x17 (J 4)) fun x18 =>
 Ask (rPick x14 x18 (.bool false)) fun x19 =>
 AskGF X [(x19, true)] 10 [(.agg #[x10])] fun x20 =>
 AskG [(x19, true)] (rBin X.P .eql 3 false true x20 (J 0)) fun x21 =>
 Ask (rPick x19 x21 (.bool false)) fun x22 =>
 Ret X w8 [b0] [] x22) := by kernel_rfl
def cAlv : Contract := fnW Cods.nil (fun _ _ => True) (fun _ _ v _ => v = .bool true)
def TA7v : Table := (TA7.add 8 c7Sv).add 23 c7Ev
theorem keepTA7v : AllKeep Try.prog GA TA7v := (keepTA7.add keeps7Sv).add keeps7Ev
theorem keepsAlv : Keeps1 Try.prog GA 6 cAlv := by
  refine keepsW (T := TA7v) (A := ann6) hMix keepTA7v hGA (calls_of (by kernel_rfl)) (callsW_of (by kernel_rfl)) fun args a w0 hrd hpre hg => ?_
  obtain rfl : args = [] := hrd
  refine ⟨[], [], [], 1, env0 [] w0, fun b => b, 0, rfl, rfl, fun X hX => mem_none hX rfl, fun X hP hS hw hX hR => ?_⟩
  subst hw; try dsimp only at hR
  rw [vc6 X]
  refine a_build #[J 3] hX hP ty7 (by decide) (by decide) (by kernel_rfl) rfl (by decide) fun g1 _ w1 h1 k1 s1 su1 o1 => ?_
  refine a_build #[.slice (some ⟨g1, 0, none⟩) 1 1] hX hP ty77 (by decide) (by decide) (by kernel_rfl) rfl (by decide) fun g2 _ w2 h2 k2 s2 su2 o2 => ?_
  refine a_build #[J 5] hX hP ty7 (by decide) (by decide) (by kernel_rfl) rfl (by decide) fun g3 _ w3 h3 k3 s3 su3 o3 => ?_
  refine call_W hX hS (T := TA7v) (f := 8) rfl ([[3]], [5], ()) (fun w hw => ⟨⟨_, _, rfl, ⟨[_], (own_slAt o2).stp0 (su3.trans0 hw.stp), rfl, fun i x a hx ha => ?_⟩, _, _, rfl, ⟨(own_slAt o3).stp0 hw.stp, fun _ _ => trivial⟩, rfl⟩, rfl, rfl⟩) fun v u4 w4 h4 k4 s4 su4 hv => ?_
  · match i with
    | 0 =>
      simp at hx ha
      subst hx ha
      exact ⟨(own_slAt o1).stp0 (su2.trans0 (su3.trans0 hw.stp)), fun _ _ => trivial⟩
    | i + 1 => simp at hx
  obtain ⟨x, rfl, ox⟩ := hv
  rw [ask_ext (v := x) rfl, ask_ext (v := J 0) rfl]
  refine a_build #[J 2, J 3] hX hP ty7 (by decide) (by decide) (by kernel_rfl) rfl (by decide) fun g5 _ w5 h5 k5 s5 su5 o5 => ?_
  refine call_W hX hS (T := TA7v) (f := 23) rfl ([2, 3], 4, ()) (fun w hw => ⟨⟨_, _, rfl, ⟨(own_slAt o5).stp0 hw.stp, fun _ _ => trivial⟩, _, _, rfl, rfl, rfl⟩, by decide⟩) fun v u6 w6 h6 k6 s6 su6 hv => ?_
  dsimp only at hv
  subst hv
  intro b0 hb0
  refine a_S7 (a_sel1 rfl ?_)
  rw [show sR.eval [2, 3] 4 = 7 by decide, ask_eqlN, decide_eq_true rfl]
  have ox6 := own_stp0 (own_stp0 ox su5) su6
  refine a_G_on condsV1 (a_len (n := 1) hP ty7 (own_slAt ox6) ?_)
  refine a_G_on condsV1 ?_
  rw [ask_eqlN, decide_eq_true rfl, ask_pickT]
  have ld := a_iadN (i := 0) (K := fun p => Ask (rLoad X w6 [b0] 27 p) fun v => v = S7 25) hP ty7 (own_slAt ox6) (by decide) (a_load_agg (cs := [J 25]) k6 (own_slAt ox6) (by rw [hP]; exact agg7) (by rw [hP]; exact sz7) (fun q hq hm => by
    have := (ox6.lt q hq).2
    simp at hm; omega) (by simp) (fun j c hj => by
    match j with
    | 0 => simpa using hj
    | j + 1 => simp at hj) rfl)
  refine a_G_on condsV1 ⟨ld.1, fun p hp => a_G_on condsV1 ?_⟩
  have ld2 := ld.2 p hp
  refine ⟨ld2.1, fun v hv => ?_⟩
  rw [show v.1 = S7 25 from ld2.2 v hv]
  refine a_GF_on condsV1 (p7r hS rfl ?_)
  rw [show (25 : Int) % 7 = ((4 : Nat) : Int) by decide]
  refine a_G_on condsV1 ?_
  rw [ask_eqlN, decide_eq_true rfl, ask_pickT]
  refine a_GF_on condsV1 (p7r hS rfl ?_)
  rw [show (7 : Int) % 7 = ((0 : Nat) : Int) by decide]
  refine a_G_on condsV1 ?_
  rw [ask_eqlN, decide_eq_true rfl, ask_pickT]
  exact hR _ _ _ _ fun _ _ => rfl
#print axioms keepsAlv
end Go.Vc
