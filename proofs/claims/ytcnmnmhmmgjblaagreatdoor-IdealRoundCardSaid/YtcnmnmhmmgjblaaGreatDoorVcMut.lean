import Derived.Test.YtcnmnmhmmgjblaaGreatDoorVcTac
import Derived.Laws.OwnMore
import Derived.MapKept
import Derived.Carry
import Derived.Laws.CopyRow
import Derived.Laws.Slices
import Derived.Lib.SliceRun
/-
  More rules for walking: callees that are entered, stores into own lists, make, whole numbers.
-/
namespace Go.Vc
open Go Go.RowKit
/-! ### callees -/
def entersB (P : Program) (f : Nat) : Bool := match P.funcs[f]? with | some fn => fn.body.isSome && fn.name != "runtime.NumGoroutine" | none => false
theorem enters_of {P : Program} {f : Nat} (h : entersB P f = true) (args : Array Value) (w : World) : (callFunc f args).run P w = .ok (.enter f args) w := by
  unfold entersB at h
  split at h
  · rename_i fn hf
    simp only [Bool.and_eq_true, bne_iff_ne, ne_eq] at h
    have h1 : ¬ fn.body = none := fun hb => by rw [hb] at h; simp at h
    simp [callFunc, hf, h1, h.2]
  · cases h
theorem calls_of {P : Program} {l : List Nat} (h : l.all (entersB P) = true) : ∀ f ∈ l, ∀ args w, (callFunc f args).run P w = .ok (.enter f args) w := fun f hf => enters_of (List.all_eq_true.1 h f hf)
theorem callsW_of {P : Program} {l : List (Nat × Bool)} (h : l.all (fun p => entersB P p.1) = true) : ∀ p ∈ l, ∀ args w, (callFunc p.1 args).run P w = .ok (.enter p.1 args) w := fun p hp => enters_of (List.all_eq_true.1 h p hp)
/-! ### whole numbers -/
section
variable {P : Program} {K : Value → Prop} {t : TypeId} {cx cy : Bool}
theorem ask_quoN {a b : Nat} (hb : 0 < b) (ha : a < 2 ^ 63) : Ask (rBin P .quo t cx cy (J a) (J b)) K = K (J (a / b)) :=
  ask_eq (runs_iff fun w => by
    have h1 : ((a : Int).tdiv (b : Int)) = ((a / b : Nat) : Int) := rfl
    have h2 : a / b ≤ a := Nat.div_le_self _ _
    have h3 : ¬ ((b : Int) = 0) := by omega
    simp only [binSem, eqGuard, binOp, Op.intDiv, h3, if_false, h1]
    generalize a / b = q at *
    rw [wrap_i64 (by omega) (by omega)]; rfl)
theorem ask_remN {a b : Nat} (hb : 0 < b) : Ask (rBin P .rem t cx cy (J a) (J b)) K = K (J (a % b)) :=
  ask_eq (runs_iff fun w => by
    have h3 : ¬ ((b : Int) = 0) := by omega
    simp only [binSem, eqGuard, binOp, Op.intDiv, h3, if_false]
    rfl)
theorem ask_shlN {a b : Nat} (hb : b ≤ 64) (h : a * 2 ^ b < 2 ^ 63) : Ask (rBin P .shl t cx cy (J a) (J b)) K = K (J (a * 2 ^ b)) :=
  ask_eq (runs_iff fun w => by
    have hm : min b 64 = b := by omega
    have hw : IntKind.i64.wrap ((a : Int) * 2 ^ b) = ((a * 2 ^ b : Nat) : Int) := by
      have e : ((a : Int) * 2 ^ b) = ((a * 2 ^ b : Nat) : Int) := by simp
      rw [e, wrap_i64 (by omega) (by omega)]
    simp [binSem, eqGuard, binOp, hw])
theorem ask_leqN {a b : Nat} : Ask (rBin P .leq t cx cy (J a) (J b)) K = K (.bool (decide (a ≤ b))) := by
  rw [ask_leq]; simp
theorem ask_gtrN {a b : Nat} : Ask (rBin P .gtr t cx cy (J a) (J b)) K = K (.bool (decide (b < a))) := by
  rw [ask_gtr]; simp
theorem ask_geqN {a b : Nat} : Ask (rBin P .geq t cx cy (J a) (J b)) K = K (.bool (decide (b ≤ a))) := by
  rw [ask_geq]; simp
theorem ask_eqlN {a b : Nat} : Ask (rBin P .eql t cx cy (J a) (J b)) K = K (.bool (decide (a = b))) := by
  rw [ask_eql]; congr 2; rw [Bool.eq_iff_iff]; simp; omega
end
/-! ### slices -/
section
variable {X : Ctx} {P : Program} {u : World} {ow : List Nat} {bl : List KB} {K : Value → Prop} {KW : Value → World → Prop}
/-- The elements that make lays. -/
theorem made_flat (z : Array Value) (hz : 0 < z.size) : ∀ n : Nat, (madeCells z (n * z.size)).toList = (List.replicate n ()).flatMap fun _ => z.toList
  | 0 => by simp [madeCells]
  | n + 1 => by
    have ih := made_flat z hz n
    have e : (madeCells z ((n + 1) * z.size)).toList = (madeCells z (n * z.size)).toList ++ z.toList := by
      apply List.ext_getElem?
      intro i
      simp only [madeCells, Array.toList_map, Array.toList_range, List.getElem?_map]
      rw [Nat.succ_mul]
      rcases Nat.lt_or_ge i (n * z.size) with h | h
      · rw [List.getElem?_append_left (by simpa using h), List.getElem?_range (by omega)]
        simp [h]
      · rw [List.getElem?_append_right (by simpa using h)]
        rcases Nat.lt_or_ge i (n * z.size + z.size) with h2 | h2
        · rw [List.getElem?_range h2]
          have e1 : i % z.size = i - n * z.size := by
            have : i = (i - n * z.size) + n * z.size := by omega
            rw [this, Nat.add_mul_mod_self_right, Nat.mod_eq_of_lt (by omega)]; omega
          simp [e1, show i - n * z.size < z.size by omega]
        · rw [List.getElem?_eq_none (by simp; omega), List.getElem?_eq_none (by simp; omega)]; rfl
    rw [e, ih]
    rw [List.replicate_succ', List.flatMap_append]
    simp
theorem made_enc {α : Type} {enc : α → List Value} {a : α} {z : Value} {s : Nat} (hz : z = .agg (enc a).toArray) (hs : (enc a).length = s) (h0 : 0 < s) (n : Nat) : (madeCells z.cells (n * s)).toList = (List.replicate n a).flatMap enc := by
  subst hz
  have h := made_flat (enc a).toArray (by simpa [hs] using h0) n
  simp only [List.size_toArray, hs] at h
  show (madeCells (enc a).toArray (n * s)).toList = _
  rw [h]
  clear h
  induction n with
  | zero => rfl
  | succ n ih => rw [List.replicate_succ, List.replicate_succ, List.flatMap_cons, List.flatMap_cons, ih]
theorem made_one {z : Value} (hz : z.cells = #[z]) (n : Nat) : (madeCells z.cells (n * 1)).toList = List.replicate n z := by rw [hz, Nat.mul_one]; exact toList_madeCells_one z n
/-- make, full. -/
theorem a_make {t e ty size bytes n : Nat} {z : Value} {la lc : Operand} {l : List (Nat × Value)} (hX : Std X) (hP : X.P = P) (hT : ElTy P t e size bytes z) (e1 : argsFn l la = J n) (e2 : argsFn l lc = J n) (hbytes : bytes * n ≤ 281474976710656) (h63 : n ≤ maxLen)
    (hK : ∀ g w w', KnownV X u ow bl w → Kn X w' → Stp [] w w' → Stp ow u w' → w'.ownsRow w.heap.size e size (.slice (some ⟨g, 0, none⟩) n n) n (madeCells z.cells (n * size)).toList → KW (.slice (some ⟨g, 0, none⟩) n n) w') :
    AskO X u ow bl false (.makeSlice t la lc) ty l KW := by
  subst hP
  obtain ⟨ie, hie, rfl, rfl, hz⟩ := hT.info
  have key : ∀ w, ∃ w', (execOp (argsFn l) ⟨none, .makeSlice t la lc, ty, "", #[], none⟩).run X.P w = .ok (.value (.slice (some ⟨w.heap.size, 0, none⟩) n n)) w' ∧
      w'.ownsRow w.heap.size e ie.size (.slice (some ⟨w.heap.size, 0, none⟩) n n) n (madeCells z.cells (n * ie.size)).toList ∧ w.grownBy w' none := fun w => by
    obtain ⟨w', hr, ho, hg⟩ := run_make_full (P := X.P) w w.heap.size t e ie z ie.size hT.sl hie hz rfl .i64 .i64 n hbytes h63 (Nat.le_refl _)
    refine ⟨w', ?_, ho, hg⟩
    simp only [execOp, e1, e2, Sem.run_bind, hr, Result.andThen_ok]; rfl
  refine askE_intro (fun w hw => ?_) fun v' w' ⟨w, hw, hr⟩ => ?_
  · obtain ⟨w', hr, ho, hg⟩ := key w
    exact ⟨_, w', hr, hg.os, hg.tape, hg.output, hg.size, fun b hb _ => hg.block b hb (by simp)⟩
  · obtain ⟨w1, hr1, ho, hg⟩ := key w
    have hr : (execOp (argsFn l) ⟨none, .makeSlice t la lc, ty, "", #[], none⟩).run X.P w = .ok (.value v') w' := hr
    rw [hr1] at hr
    cases hr
    have hs : Stp [] w w' := ⟨hg.size, fun b hb _ => hg.block b hb (by simp)⟩
    refine hK _ w w' hw ⟨fun _ _ _ => rfl, Nat.le_refl _, fun b hb => ?_, Nat.le_trans hw.sz0 hs.size, hg.os.trans hw.os, hg.tape.trans hw.tape, hg.output.trans hw.output, fun _ h => by cases h⟩ hs (by simpa using hw.stp.trans hs) ho
    have hlt : b < w.heap.size := by
      rcases Nat.lt_or_ge b w.heap.size with h | h
      · exact h
      · exact absurd ((hX b).2 (Nat.le_trans hw.sz0 h)) hb
    rw [hs.past b hlt (by simp)]; exact hw.keep b hb
end
theorem own_mono {w : World} {base base' size n : Nat} {e : TypeId} {v : Value} {xs : List Value} (h : w.ownsRow base e size v n xs) (hb : base' ≤ base) : w.ownsRow base' e size v n xs :=
  ⟨h.1, h.2.imp_right fun ⟨g, cap, cur, hv, hg, rest⟩ => ⟨g, cap, cur, hv, Nat.le_trans hb hg, rest⟩⟩
/-- What is read lies in memory that is there. -/
theorem slAt_low {w : World} {v : Value} {n : Nat} {xs : List Value} (h : SlAt w v n xs) (h0 : 0 < xs.length) : ∀ b, v.ownBlock = some b → b < w.heap.size := fun b hb => by
  rcases h with ⟨_, _, rfl⟩ | ⟨g, o, cap, rfl, _, hc⟩
  · simp at h0
  · cases hb
    exact World.block_lt_of_cell? w ⟨g, o + 0, none⟩ (hc 0 _ (List.getElem?_eq_getElem h0))
theorem slAt_off {w : World} {v : Value} {n : Nat} {xs : List Value} (h : SlAt w v n xs) (h0 : 0 < xs.length) {ex : List Nat} (he : ∀ b ∈ ex, w.heap.size ≤ b) : ∀ b, v.ownBlock = some b → b ∉ ex := fun b hb hm => by
  have h1 := slAt_low h h0 b hb
  have h2 := he b hm
  omega
/-! ### stores -/
/-- Cells from o on, written over. -/
def lset (xs : List Value) (o : Nat) (vs : List Value) : List Value := xs.take o ++ vs ++ xs.drop (o + vs.length)
theorem lset_len {xs : List Value} {o : Nat} {vs : List Value} (h : o + vs.length ≤ xs.length) : (lset xs o vs).length = xs.length := by
  simp [lset]; omega
theorem lset_flat {α : Type} {enc : α → List Value} {s : Nat} (hlen : ∀ x, (enc x).length = s) (x : α) : ∀ (l : List α) (k : Nat), k < l.length → lset (l.flatMap enc) (k * s) (enc x) = (l.set k x).flatMap enc
  | [], k, h => by simp at h
  | y :: r, 0, _ => by
    simp only [lset, Nat.zero_mul, List.take_zero, List.nil_append, Nat.zero_add, List.flatMap_cons, List.set_cons_zero, hlen]
    rw [List.drop_append_of_le_length (by rw [hlen]; exact Nat.le_refl _), List.drop_of_length_le (by rw [hlen]; exact Nat.le_refl _)]
    rfl
  | y :: r, k + 1, h => by
    have ih := lset_flat hlen x r k (by simpa using h)
    rw [List.set_cons_succ, List.flatMap_cons, List.flatMap_cons, ← ih]
    simp only [lset]
    rw [List.take_append, List.drop_append, hlen, hlen, Nat.succ_mul]
    rw [List.take_of_length_le (by rw [hlen]; omega), List.drop_of_length_le (by rw [hlen]; omega)]
    rw [show k * s + s - s = k * s by omega, show k * s + s + s - s = k * s + s by omega]
    simp
theorem own_set {w : World} {base e size n o : Nat} {v : Value} {xs vs : List Value} (h : w.ownsRow base e size v n xs) (hv : v ≠ .slice none 0 0) (ho : o + vs.length ≤ n * size) :
    ∃ g cur, v.ownBlock = some g ∧ base ≤ g ∧ w.heap[g]? = some (.cells cur e (0, 0)) ∧ Ptr v o = .pointer (some ⟨g, o, none⟩) ∧ o + vs.length ≤ cur.size ∧ (w.setRow g (splice cur o vs)).ownsRow base e size v n (lset xs o vs) := by
  rcases h.2 with ⟨h', _⟩ | ⟨g, cap, cur, rfl, hb, hg, hnc, hcm, hcs, htake⟩
  · exact absurd h' hv
  · have hcap : n * size ≤ cap * size := Nat.mul_le_mul_right _ hnc
    refine ⟨g, cur, rfl, hb, hg, by simp [Ptr], by omega, by rw [lset_len (by rw [h.1]; exact ho)]; exact h.1, .inr ⟨g, cap, splice cur o vs, rfl, hb, setRow_heap w g cur _ e (0, 0) hg, hnc, hcm, by rw [splice_size (by omega)]; exact hcs, ?_⟩⟩
    unfold splice lset
    simp only
    rw [← htake, List.take_append, List.take_append, List.take_take, List.drop_take]
    simp only [List.length_append, List.length_take, Array.length_toList]
    rw [show min o cur.size = o by omega, Nat.min_eq_right (by omega), List.take_of_length_le (l := vs) (by omega)]
    rw [List.take_take, show min o (n * size) = o by omega]
section
variable {X : Ctx} {P : Program} {u : World} {ow : List Nat} {bl : List KB} {KW : Value → World → Prop}
/-- A store into a list of the call's own. -/
theorem a_store {t ty e size base n o m : Nat} {pa pb : Operand} {l : List (Nat × Value)} {v x : Value} {xs vs : List Value} (hX : Std X) (hP : X.P = P) (ht : sz P t = some m) (e1 : argsFn l pa = Ptr v o) (e2 : argsFn l pb = x)
    (hx : x.cells = vs.toArray) (hm : vs.length = m) (h1 : vs.all (·.oneCell') = true) (hown : u.ownsRow base e size v n xs) (hb0 : X.w0.heap.size ≤ base) (ho : o + m ≤ n * size) (h0 : 0 < m)
    (hvo : ∀ g, v.ownBlock = some g → g ∉ ow) (hvb : ∀ w, KnownV X u ow bl w → ∀ g, v.ownBlock = some g → g ∉ bl.map (·.b))
    (hK : ∀ q w w', KnownV X u ow bl w → Kn X w' → Stp v.ownBlock.toList w w' → Stp (ow ++ v.ownBlock.toList) u w' → w'.ownsRow base e size v n (lset xs o vs) → KW q w') :
    AskO X u ow bl true (.store t pa pb) ty l KW := by
  subst hP
  have hv : v ≠ .slice none 0 0 := by
    intro hv
    rcases hown.2 with ⟨_, hn⟩ | ⟨g, cap, cur, rfl, _⟩
    · rw [hn] at ho; omega
    · cases hv
  have key : ∀ w, KnownV X u ow bl w → ∃ g cur, v.ownBlock = some g ∧ X.mine g ∧ (execOp (argsFn l) ⟨none, .store t pa pb, ty, "", #[], none⟩).run X.P w = .ok .skip (w.setRow g (splice cur o vs)) ∧
      (w.setRow g (splice cur o vs)).ownsRow base e size v n (lset xs o vs) := fun w hw => by
    obtain ⟨g, cur, hg, hbg, hrow, hp, hle, hown'⟩ := own_set (vs := vs) (o := o) (own_stp hown hw.stp hvo) hv (by omega)
    refine ⟨g, cur, hg, (hX g).2 (Nat.le_trans hb0 hbg), ?_, hown'⟩
    have hr := store_run (X := X) (t := t) (w := w) (o := o) (v := x) ht hrow (by rw [hx]; simpa using hm) (by omega) (by rw [hx]; simpa using h1)
    rw [hx] at hr
    simp only [execOp, e1, e2, hp, Sem.run_bind]
    rw [hr]
    rfl
  refine askE_intro (fun w hw => ?_) fun q w' ⟨w, hw, hr⟩ => ?_
  · obtain ⟨g, cur, hg, hmine, hr, _⟩ := key w hw
    refine ⟨undef, _, hr, rfl, rfl, rfl, by simp [World.setRow], fun b hb hmd => ?_⟩
    rcases Nat.decEq b g with hne | rfl
    · exact setRow_other w g b _ hne
    · rcases hmd rfl with h | h
      · exact absurd hmine h
      · exact absurd h (hvb w hw _ hg)
  · obtain ⟨g, cur, hg, hmine, hr1, ho'⟩ := key w hw
    have hr : (execOp (argsFn l) ⟨none, .store t pa pb, ty, "", #[], none⟩).run X.P w = .ok .skip w' := hr
    rw [hr1] at hr
    cases hr
    have hs : Stp v.ownBlock.toList w (w.setRow g (splice cur o vs)) := ⟨by simp [World.setRow], fun b _ hn => setRow_other w g b _ fun h => hn (by rw [hg, h]; simp)⟩
    refine hK _ w _ hw ⟨fun _ _ _ => rfl, Nat.le_refl _, fun b hb => ?_, Nat.le_trans hw.sz0 hs.size, hw.os, hw.tape, hw.output, fun _ h => by cases h⟩ hs (hw.stp.trans hs) ho'
    rw [setRow_other w g b _ (fun h => hb (by rw [h]; exact hmine))]
    exact hw.keep b hb
end
end Go.Vc

/-
  Rules for maps with plain keys.
-/
namespace Go.Vc
open Go Go.RowKit
section
variable {X : Ctx} {P : Program} {u : World} {ow : List Nat} {bl : List KB} {KW : Value → World → Prop}
end
end Go.Vc

/-
  Functions that write to memory that they are handed: contracts, calls; stores, copies, clearings where a pointer points.
-/
namespace Go.Vc
open Go Go.RowKit
/-- New memory may be written to. -/
def StdN (X : Ctx) : Prop := ∀ b, X.w0.heap.size ≤ b → X.mine b
theorem Std.n {X : Ctx} (h : Std X) : StdN X := fun b hb => (h b).2 hb
/-- New memory, and that of md, may be written to. -/
def StdM (X : Ctx) (md : Nat → Prop) : Prop := ∀ b, X.mine b ↔ (X.w0.heap.size ≤ b ∨ md b)
theorem StdM.n {X : Ctx} {md : Nat → Prop} (h : StdM X md) : StdN X := fun b hb => (h b).2 (.inl hb)
theorem Kn.stpM {X : Ctx} {w : World} {md : Nat → Prop} {ex : List Nat} (h : Kn X w) (hm : StdM X md) (he : ∀ b, md b → b ∈ ex) : Stp ex X.w0 w :=
  ⟨h.sz0, fun b hb hn => h.keep b fun hh => by
    rcases (hm b).1 hh with h1 | h1
    · omega
    · exact hn (he b h1)⟩
theorem knN {X : Ctx} {u w w' : World} {ow : List Nat} {bl : List KB} {ex : List Nat} (hX : StdN X) (hw : KnownV X u ow bl w) (hs : Stp ex w w') (he : ∀ b ∈ ex, X.mine b) (h1 : w'.os = w.os) (h2 : w'.tape = w.tape) (h3 : w'.output = w.output) : Kn X w' := by
  refine ⟨fun _ _ _ => rfl, Nat.le_refl _, fun b hb => ?_, Nat.le_trans hw.sz0 hs.size, h1.trans hw.os, h2.trans hw.tape, h3.trans hw.output, fun _ h => by cases h⟩
  have hlt : b < X.w0.heap.size := by
    rcases Nat.lt_or_ge b X.w0.heap.size with h | h
    · exact h
    · exact absurd (hX b h) hb
  rw [hs.past b (Nat.lt_of_lt_of_le hlt hw.sz0) fun h => hb (he b h)]
  exact hw.keep b hb
/-! ### contracts -/
def fnM {α : Type} (c : Cods α) (pre : α → World → Prop) (post : α → World → Value → World → Prop) (md : α → Nat → Prop) : Contract where
  preW args w := ∃ a, c.rd w args a ∧ pre a w
  postW args w v w' := ∀ a, c.rd w args a → post a w v w' ∧ KeepsM (md a) w w'
  modW args w b := ∃ a, c.rd w args a ∧ md a b
theorem keepsM {P : Program} {G : World → Prop} {T : Table} {A : Ann} {f : FuncId} {α : Type} {c : Cods α} {pre : α → World → Prop} {post : α → World → Value → World → Prop} {md : α → Nat → Prop} (hm : P.follows .mixedOrders = true) (hT : AllKeep P G T)
    (hG : ∀ a w0 w args, c.rd w0 args a → pre a w0 → G w0 → (∀ b, b < w0.heap.size → ¬ md a b → w.heap[b]? = w0.heap[b]?) → w0.heap.size ≤ w.heap.size → G w)
    (he : ∀ f ∈ A.calls, ∀ args w, (callFunc f args).run P w = .ok (.enter f args) w) (heW : ∀ p ∈ A.callsW, ∀ args w, (callFunc p.1 args).run P w = .ok (.enter p.1 args) w)
    (h : ∀ args a w0, c.rd w0 args a → pre a w0 → G w0 → ∃ (sv : List SV) (blocks : List (Option Blk)) (gl : List (Nat × Nat)) (ne : Nat) (env : Env) (β : Nat → Nat) (nb : Nat),
      sv.map (·.den env β) = args ∧ blocks.length = nb ∧ (∀ X : Ctx, X.w0 = w0 → Mem X ⟨true, ne - 1, []⟩ blocks gl env β w0) ∧
      ∀ X : Ctx, X.P = P → X.S = T.spec → X.w0 = w0 → StdM X (md a) → (∀ u ow bl v, (∀ w, KnownV X u ow bl w → post a w0 v w) → Ret X u ow bl v) →
        (run P A f sv blocks gl ne).den X env ne β nb (fun _ _ _ => False)) : Keeps1 P G f (fnM c pre post md) := by
  refine ⟨fun args w hp => hp.elim, fun args w0 ⟨a, hrd, hpre⟩ hg => ?_⟩
  obtain ⟨sv, blocks, gl, ne, env, β, nb, hargs, hnb, hmem, hden⟩ := h args a w0 hrd hpre hg
  subst hnb
  have hgood : Good (ctx P G T w0 (md a) fun v w' => post a w0 v w' ∧ KeepsM (md a) w0 w') A := good_of hm hT (fun w h hs => hG a w0 w args hrd hpre hg (fun b hb hn => h b hb hn) hs) he heW
  have h1 := run_sound (X := ctx P G T w0 (md a) fun v w' => post a w0 v w' ∧ KeepsM (md a) w0 w') hgood (hmem _ rfl)
    (hden _ rfl rfl rfl (fun b => Iff.rfl) (fun u ow bl v hv w hw => ⟨hv w hw, known_keepsM hw⟩))
  rw [hargs] at h1
  refine h1.mono fun e w' ⟨v, he, hp, hk⟩ => ⟨v, he, fun a' ha' => ?_, hk.os, hk.tape, hk.output, hk.size, fun b hb hn => hk.block b hb fun hh => hn ⟨a, hrd, hh⟩⟩
  rw [c.inj _ _ _ _ ha' hrd]; exact ⟨hp, hk⟩
theorem call_M {α : Type} {X : Ctx} {T : Table} {f : Nat} {c : Cods α} {pre : α → World → Prop} {post : α → World → Value → World → Prop} {md : α → Nat → Prop} {u : World} {ow : List Nat} {bl : List KB} {args : List Value} {K : Value → World → Prop}
    (hX : StdN X) (hS : X.S = T.spec) (hT : T f = fnM c pre post md) (a : α) (hrd : ∀ w, KnownV X u ow bl w → c.rd w args a ∧ pre a w) (ex : List Nat) (hex : ∀ b, md a b → b ∈ ex) (hmine : ∀ b ∈ ex, X.mine b ∧ b ∉ bl.map (·.b))
    (hK : ∀ v w w', KnownV X u ow bl w → Kn X w' → Stp ex w w' → Stp (ow ++ ex) u w' → post a w v w' → K v w') : AskW X u ow bl true f args K := by
  have h1 : ∀ w, X.S.preW f args w = (fnM c pre post md).preW args w := fun w => by rw [hS]; show (T f).preW _ _ = _; rw [hT]
  have h2 : ∀ w v w', X.S.postW f args w v w' = (fnM c pre post md).postW args w v w' := fun w v w' => by rw [hS]; show (T f).postW _ _ _ _ = _; rw [hT]
  have h3 : ∀ w b, X.S.modW f args w b = (fnM c pre post md).modW args w b := fun w b => by rw [hS]; show (T f).modW _ _ _ = _; rw [hT]
  refine ask_callW (fun w hw => ⟨by rw [h1]; exact ⟨a, hrd w hw⟩, fun b hb => ?_⟩) fun w v w' hw hp => ?_
  · rw [h3] at hb
    obtain ⟨a', ha', hb⟩ := hb
    rw [c.inj _ _ _ _ ha' (hrd w hw).1] at hb
    exact ⟨rfl, hmine b (hex b hb)⟩
  · rw [h2] at hp
    obtain ⟨hp, hk⟩ := hp a (hrd w hw).1
    have hs : Stp ex w w' := ⟨hk.size, fun b hb hn => hk.block b hb fun hh => hn (hex b hh)⟩
    exact hK v w w' hw (knN hX hw hs (fun b hb => (hmine b hb).1) hk.os hk.tape hk.output) hs (hw.stp.trans hs) hp
/-! ### cells that are overwritten -/
section
variable {X : Ctx} {P : Program} {u : World} {ow : List Nat} {bl : List KB} {KW : Value → World → Prop}
/-- An effect that overwrites one block's cells. -/
theorem a_row {md : Bool} (hmd : md = true) {op : Op} {ty b : Nat} {l : List (Nat × Value)} {cells new : Array Value} {ty0 : TypeId} (hX : StdN X) (hrow : u.heap[b]? = some (.cells cells ty0 (0, 0))) (how : b ∉ ow) (hmine : X.mine b) (hbl : b ∉ bl.map (·.b)) (v : Value)
    (hrun : ∀ w, KnownV X u ow bl w → w.heap[b]? = some (.cells cells ty0 (0, 0)) → (execOp (argsFn l) ⟨none, op, ty, "", #[], none⟩).run X.P w = .ok (effOut op v) (w.setRow b new))
    (hK : ∀ q w w', KnownV X u ow bl w → Kn X w' → Stp [b] w w' → Stp (ow ++ [b]) u w' → w'.heap[b]? = some (.cells new ty0 (0, 0)) → w'.heap.size = w.heap.size → (mute op = false → q = v) → KW q w') : AskO X u ow bl md op ty l KW := by
  subst hmd
  have hlt : b < u.heap.size := (Array.getElem?_eq_some_iff.1 hrow).1
  have row : ∀ w, KnownV X u ow bl w → w.heap[b]? = some (.cells cells ty0 (0, 0)) := fun w hw => by rw [hw.past b hlt how]; exact hrow
  have stp : ∀ w, KnownV X u ow bl w → Stp [b] w (w.setRow b new) := fun w hw => ⟨by simp [World.setRow], fun q _ hn => setRow_other w b q new (by simpa using hn)⟩
  refine askE_intro (fun w hw => ⟨v, _, hrun w hw (row w hw), rfl, rfl, rfl, (stp w hw).size, fun q hq hm => (stp w hw).past q hq fun h => ?_⟩) fun q w' ⟨w, hw, hr⟩ => ?_
  · simp only [List.mem_singleton] at h
    subst h
    rcases hm rfl with h | h
    · exact h hmine
    · exact hbl h
  · have hr : (execOp (argsFn l) ⟨none, op, ty, "", #[], none⟩).run X.P w = .ok (effOut op q) w' := hr
    rw [hrun w hw (row w hw)] at hr
    have hq : mute op = false → q = v := fun h => by
      simp only [effOut, h, Bool.false_eq_true, if_false] at hr
      cases hr; rfl
    have hw' : w' = w.setRow b new := by
      injection hr with _ h
      exact h.symm
    subst hw'
    exact hK q w _ hw (knN hX hw (stp w hw) (all1 hmine) rfl rfl rfl) (stp w hw) (hw.stp.trans (stp w hw)) (setRow_heap w b cells new ty0 (0, 0) (row w hw)) (by simp [World.setRow]) hq
/-- A store where a pointer points. -/
theorem a_storeAt {t ty b o m : Nat} {pa pb : Operand} {l : List (Nat × Value)} {x : Value} {vs : List Value} {cells : Array Value} {ty0 : TypeId} (hX : StdN X) (hP : X.P = P) (ht : sz P t = some m) (e1 : argsFn l pa = .pointer (some ⟨b, o, none⟩)) (e2 : argsFn l pb = x)
    (hx : x.cells = vs.toArray) (hm : vs.length = m) (h1 : vs.all (·.oneCell') = true) (hrow : u.heap[b]? = some (.cells cells ty0 (0, 0))) (how : b ∉ ow) (hmine : X.mine b) (hbl : b ∉ bl.map (·.b)) (ho : o + m ≤ cells.size)
    (hK : ∀ q w w', KnownV X u ow bl w → Kn X w' → Stp [b] w w' → Stp (ow ++ [b]) u w' → w'.heap[b]? = some (.cells (splice cells o vs) ty0 (0, 0)) → w'.heap.size = w.heap.size → KW q w') :
    AskO X u ow bl true (.store t pa pb) ty l KW := by
  subst hP
  refine a_row rfl hX hrow how hmine hbl undef (fun w hw hr => ?_) fun q w w' h1 h2 h3 h4 h5 h6 _ => hK q w w' h1 h2 h3 h4 h5 h6
  have hr := store_run (X := X) (t := t) (w := w) (o := o) (v := x) ht hr (by rw [hx]; simpa using hm) ho (by rw [hx]; simpa using h1)
  rw [hx] at hr
  simp only [execOp, e1, e2, Sem.run_bind]
  rw [hr]
  rfl
/-! ### variables that are not tracked -/
theorem a_box {t ty : Nat} {pa : Operand} {l : List (Nat × Value)} {x : Value} (hX : StdN X) (e1 : argsFn l pa = x)
    (hK : ∀ r w w', KnownV X u ow bl w → Kn X w' → Stp [] w w' → Stp ow u w' → w.heap.size = r → w'.heap[r]? = some (.cells x.cells t (0, 0)) → w'.heap.size = r + 1 → KW (.pointer (some ⟨r, 0, none⟩)) w') : AskO X u ow bl false (.box t pa) ty l KW := by
  refine askE_run rfl (fun w => .pointer (some ⟨w.heap.size, 0, none⟩)) (fun w => w.alloc (.cells x.cells t)) (fun w _ => ⟨by
    simp [execOp, e1, Instr.box, newVar, newRow], keeps_alloc _ _ _ _⟩) fun w hw => ?_
  have hs : Stp [] w (w.alloc (.cells x.cells t)) := ⟨by simp, fun b hb _ => heap_alloc_old w _ hb⟩
  exact hK _ w _ hw (knN hX hw hs (fun _ h => by cases h) rfl rfl rfl) hs (by simpa using hw.stp.trans hs) rfl (heap_alloc_new w _) (by simp)
end
/-! ### pointers -/
section
variable {X : Ctx} {P : Program} {u : World} {ow : List Nat} {K : Value → Prop}
theorem a_nilCheck {a : Nat} {ty : TypeId} {p : Addr} (hK : K (.pointer (some p))) : Ask (rGen X.P (.nilCheck (.tmp a)) ty [(a, .pointer (some p))]) K := by
  have e : Ask (rGen X.P (.nilCheck (.tmp a)) ty [(a, .pointer (some p))]) K = K (.pointer (some p)) := ask_eq (runsN_iff fun w => by simp [execOp, argsFn])
  rw [e]; exact hK
/-- The field of a struct that a pointer points at. -/
theorem a_fadP {t f b o off : Nat} (hP : X.P = P) (hu : FdTy P t f off) (hK : K (.pointer (some ⟨b, o + off, none⟩))) : Ask (rFad X.P t (.pointer (some ⟨b, o, none⟩)) f) K := by
  obtain ⟨s, hs⟩ := hu
  subst hP
  split at hs
  · rename_i fs hfs
    cases hf : fs[f]? with
    | none => rw [hf] at hs; cases hs
    | some fd =>
      rw [hf] at hs
      simp only [Option.map_some, Option.some.injEq, Prod.mk.injEq] at hs
      rw [ask_fad hfs hf hs.2 (by omega), hs.1]; exact hK
  · cases hs
/-- The element of an array that a pointer points at. -/
theorem a_iadP {t n e s b o i : Nat} (hP : X.P = P) (hu : P.underlying t = some (.array n e)) (hs : sz P e = some s) (hi : i < n) (hK : K (.pointer (some ⟨b, o + i * s, none⟩))) : Ask (rIad X.P t (.pointer (some ⟨b, o, none⟩)) (J i)) K := by
  subst hP
  have e : Ask (rIad X.P t (.pointer (some ⟨b, o, none⟩)) (J i)) K = K (.pointer (some ⟨b, o + i * s, none⟩)) := ask_eq (runs_iff fun w => by
    have h1 : (0 : Int) ≤ (i : Int) ∧ (i : Int) < (n : Int) := by omega
    simp [Instr.indexAt, Instr.sureAddr, asIntOf, run_underlying hu, run_sz hs, h1, add_none]
    intro h; omega)
  rw [e]; exact hK
/-- A load where a pointer points. -/
theorem a_ldP {t b o : Nat} {cells : Array Value} {ty0 : TypeId} {v : Value} (hk : Kn X u) (ht : agg? X.P t = some false) (hrow : u.heap[b]? = some (.cells cells ty0 (0, 0))) (how : b ∉ ow) (hv : cells[o]? = some v) (hK : K v) : Ask (rLoad X u ow t (.pointer (some ⟨b, o, none⟩))) K := by
  rw [ask_load_one ht (Array.getElem?_eq_some_iff.1 hrow).1 how (v := v) (by simp [World.cell?, hrow, hv]) hk.some]; exact hK
theorem a_ldPA {t b o : Nat} {cells : Array Value} {ty0 : TypeId} {cs : List Value} (hk : Kn X u) (ht : agg? X.P t = some true) (hn : sz X.P t = some cs.length) (hrow : u.heap[b]? = some (.cells cells ty0 (0, 0))) (how : b ∉ ow) (hv : ∀ (j : Nat) (c : Value), cs[j]? = some c → cells[o + j]? = some c) (hK : K (.agg cs.toArray)) : Ask (rLoad X u ow t (.pointer (some ⟨b, o, none⟩))) K := by
  rw [ask_load_agg ht hn (Array.getElem?_eq_some_iff.1 hrow).1 how (fun j c hj => by simp [World.cell?, hrow, hv j c hj]) hk.some]; exact hK
end
end Go.Vc
