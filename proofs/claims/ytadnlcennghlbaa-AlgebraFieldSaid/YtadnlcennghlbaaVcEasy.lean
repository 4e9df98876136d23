/-
  More rules for walking: callees that are entered, stores into own lists, make, whole numbers.
-/
import Derived.Test.YtadnlcennghlbaaVcTac
import Derived.Laws.OwnMore
namespace Go.Vc
open Go Go.RowKit
/-! ### callees -/
def entersB (P : Program) (f : Nat) : Bool := match P.funcs[f]? with | some fn => fn.body.isSome && fn.name != "runtime.NumGoroutine" | none => false
theorem enters_of {P : Program} {f : Nat} (h : entersB P f = true) (args : Array Value) (w : World) : (callFunc f args).run P w = .ok (.enter f args) w := by
  unfold entersB at h
  split at h
  · rename_i fn hf
    simp only [Bool.and_eq_true, bne_iff_ne, ne_eq] at h
    have h1 : ¬ fn.body = none := fun hb => by rw [hb] at h; simp at h
    simp [callFunc, hf, h1, h.2]
  · cases h
theorem calls_of {P : Program} {l : List Nat} (h : l.all (entersB P) = true) : ∀ f ∈ l, ∀ args w, (callFunc f args).run P w = .ok (.enter f args) w := fun f hf => enters_of (List.all_eq_true.1 h f hf)
theorem callsW_of {P : Program} {l : List (Nat × Bool)} (h : l.all (fun p => entersB P p.1) = true) : ∀ p ∈ l, ∀ args w, (callFunc p.1 args).run P w = .ok (.enter p.1 args) w := fun p hp => enters_of (List.all_eq_true.1 h p hp)
/-! ### whole numbers -/
section
variable {P : Program} {K : Value → Prop} {t : TypeId} {cx cy : Bool}
theorem ask_eqlN {a b : Nat} : Ask (rBin P .eql t cx cy (J a) (J b)) K = K (.bool (decide (a = b))) := by
  rw [ask_eql]; congr 2; rw [Bool.eq_iff_iff]; simp; omega
end
/-! ### slices -/
section
variable {X : Ctx} {P : Program} {u : World} {ow : List Nat} {bl : List KB} {K : Value → Prop} {KW : Value → World → Prop}
theorem a_lenV {t elem size bytes n cap : Nat} {z : Value} {a : Option Addr} (hP : X.P = P) (hu : ElTy P t elem size bytes z) (hK : K (.int .i64 n)) : Ask (rLen X.P t (.slice a n cap)) K := by
  rw [ask_len_sl (by rw [hP]; exact hu.sl)]; exact hK
/-- The elements that make lays. -/
theorem made_flat (z : Array Value) (hz : 0 < z.size) : ∀ n : Nat, (madeCells z (n * z.size)).toList = (List.replicate n ()).flatMap fun _ => z.toList
  | 0 => by simp [madeCells]
  | n + 1 => by
    have ih := made_flat z hz n
    have e : (madeCells z ((n + 1) * z.size)).toList = (madeCells z (n * z.size)).toList ++ z.toList := by
      apply List.ext_getElem?
      intro i
      simp only [madeCells, Array.toList_map, Array.toList_range, List.getElem?_map]
      rw [Nat.succ_mul]
      rcases Nat.lt_or_ge i (n * z.size) with h | h
      · rw [List.getElem?_append_left (by simpa using h), List.getElem?_range (by omega)]
        simp [h]
      · rw [List.getElem?_append_right (by simpa using h)]
        rcases Nat.lt_or_ge i (n * z.size + z.size) with h2 | h2
        · rw [List.getElem?_range h2]
          have e1 : i % z.size = i - n * z.size := by
            have : i = (i - n * z.size) + n * z.size := by omega
            rw [this, Nat.add_mul_mod_self_right, Nat.mod_eq_of_lt (by omega)]; omega
          simp [e1, show i - n * z.size < z.size by omega]
        · rw [List.getElem?_eq_none (by simp; omega), List.getElem?_eq_none (by simp; omega)]; rfl
    rw [e, ih]
    rw [List.replicate_succ', List.flatMap_append]
    simp
theorem made_enc {α : Type} {enc : α → List Value} {a : α} {z : Value} {s : Nat} (hz : z = .agg (enc a).toArray) (hs : (enc a).length = s) (h0 : 0 < s) (n : Nat) : (madeCells z.cells (n * s)).toList = (List.replicate n a).flatMap enc := by
  subst hz
  have h := made_flat (enc a).toArray (by simpa [hs] using h0) n
  simp only [List.size_toArray, hs] at h
  show (madeCells (enc a).toArray (n * s)).toList = _
  rw [h]
  clear h
  induction n with
  | zero => rfl
  | succ n ih => rw [List.replicate_succ, List.replicate_succ, List.flatMap_cons, List.flatMap_cons, ih]
theorem made_one {z : Value} (hz : z.cells = #[z]) (n : Nat) : (madeCells z.cells (n * 1)).toList = List.replicate n z := by rw [hz, Nat.mul_one]; exact toList_madeCells_one z n
/-- make, full. -/
theorem a_make {t e ty size bytes n : Nat} {z : Value} {la lc : Operand} {l : List (Nat × Value)} (hX : Std X) (hP : X.P = P) (hT : ElTy P t e size bytes z) (e1 : argsFn l la = J n) (e2 : argsFn l lc = J n) (hbytes : bytes * n ≤ 281474976710656) (h63 : n ≤ maxLen)
    (hK : ∀ g w w', KnownV X u ow bl w → Kn X w' → Stp [] w w' → Stp ow u w' → w'.ownsRow w.heap.size e size (.slice (some ⟨g, 0, none⟩) n n) n (madeCells z.cells (n * size)).toList → KW (.slice (some ⟨g, 0, none⟩) n n) w') :
    AskO X u ow bl false (.makeSlice t la lc) ty l KW := by
  subst hP
  obtain ⟨ie, hie, rfl, rfl, hz⟩ := hT.info
  have key : ∀ w, ∃ w', (execOp (argsFn l) ⟨none, .makeSlice t la lc, ty, "", #[], none⟩).run X.P w = .ok (.value (.slice (some ⟨w.heap.size, 0, none⟩) n n)) w' ∧
      w'.ownsRow w.heap.size e ie.size (.slice (some ⟨w.heap.size, 0, none⟩) n n) n (madeCells z.cells (n * ie.size)).toList ∧ w.grownBy w' none := fun w => by
    obtain ⟨w', hr, ho, hg⟩ := run_make_full (P := X.P) w w.heap.size t e ie z ie.size hT.sl hie hz rfl .i64 .i64 n hbytes h63 (Nat.le_refl _)
    refine ⟨w', ?_, ho, hg⟩
    simp only [execOp, e1, e2, Sem.run_bind, hr, Result.andThen_ok]; rfl
  refine askE_intro (fun w hw => ?_) fun v' w' ⟨w, hw, hr⟩ => ?_
  · obtain ⟨w', hr, ho, hg⟩ := key w
    exact ⟨_, w', hr, hg.os, hg.tape, hg.output, hg.size, fun b hb _ => hg.block b hb (by simp)⟩
  · obtain ⟨w1, hr1, ho, hg⟩ := key w
    have hr : (execOp (argsFn l) ⟨none, .makeSlice t la lc, ty, "", #[], none⟩).run X.P w = .ok (.value v') w' := hr
    rw [hr1] at hr
    cases hr
    have hs : Stp [] w w' := ⟨hg.size, fun b hb _ => hg.block b hb (by simp)⟩
    refine hK _ w w' hw ⟨fun _ _ _ => rfl, Nat.le_refl _, fun b hb => ?_, Nat.le_trans hw.sz0 hs.size, hg.os.trans hw.os, hg.tape.trans hw.tape, hg.output.trans hw.output, fun _ h => by cases h⟩ hs (by simpa using hw.stp.trans hs) ho
    have hlt : b < w.heap.size := by
      rcases Nat.lt_or_ge b w.heap.size with h | h
      · exact h
      · exact absurd ((hX b).2 (Nat.le_trans hw.sz0 h)) hb
    rw [hs.past b hlt (by simp)]; exact hw.keep b hb
end
theorem own_mono {w : World} {base base' size n : Nat} {e : TypeId} {v : Value} {xs : List Value} (h : w.ownsRow base e size v n xs) (hb : base' ≤ base) : w.ownsRow base' e size v n xs :=
  ⟨h.1, h.2.imp_right fun ⟨g, cap, cur, hv, hg, rest⟩ => ⟨g, cap, cur, hv, Nat.le_trans hb hg, rest⟩⟩
/-- What is read lies in memory that is there. -/
theorem slAt_low {w : World} {v : Value} {n : Nat} {xs : List Value} (h : SlAt w v n xs) (h0 : 0 < xs.length) : ∀ b, v.ownBlock = some b → b < w.heap.size := fun b hb => by
  rcases h with ⟨_, _, rfl⟩ | ⟨g, o, cap, rfl, _, hc⟩
  · simp at h0
  · cases hb
    exact World.block_lt_of_cell? w ⟨g, o + 0, none⟩ (hc 0 _ (List.getElem?_eq_getElem h0))
theorem slAt_off {w : World} {v : Value} {n : Nat} {xs : List Value} (h : SlAt w v n xs) (h0 : 0 < xs.length) {ex : List Nat} (he : ∀ b ∈ ex, w.heap.size ≤ b) : ∀ b, v.ownBlock = some b → b ∉ ex := fun b hb hm => by
  have h1 := slAt_low h h0 b hb
  have h2 := he b hm
  omega
/-! ### stores -/
/-- Cells from o on, written over. -/
def lset (xs : List Value) (o : Nat) (vs : List Value) : List Value := xs.take o ++ vs ++ xs.drop (o + vs.length)
theorem lset_len {xs : List Value} {o : Nat} {vs : List Value} (h : o + vs.length ≤ xs.length) : (lset xs o vs).length = xs.length := by
  simp [lset]; omega
theorem lset_flat {α : Type} {enc : α → List Value} {s : Nat} (hlen : ∀ x, (enc x).length = s) (x : α) : ∀ (l : List α) (k : Nat), k < l.length → lset (l.flatMap enc) (k * s) (enc x) = (l.set k x).flatMap enc
  | [], k, h => by simp at h
  | y :: r, 0, _ => by
    simp only [lset, Nat.zero_mul, List.take_zero, List.nil_append, Nat.zero_add, List.flatMap_cons, List.set_cons_zero, hlen]
    rw [List.drop_append_of_le_length (by rw [hlen]; exact Nat.le_refl _), List.drop_of_length_le (by rw [hlen]; exact Nat.le_refl _)]
    rfl
  | y :: r, k + 1, h => by
    have ih := lset_flat hlen x r k (by simpa using h)
    rw [List.set_cons_succ, List.flatMap_cons, List.flatMap_cons, ← ih]
    simp only [lset]
    rw [List.take_append, List.drop_append, hlen, hlen, Nat.succ_mul]
    rw [List.take_of_length_le (by rw [hlen]; omega), List.drop_of_length_le (by rw [hlen]; omega)]
    rw [show k * s + s - s = k * s by omega, show k * s + s + s - s = k * s + s by omega]
    simp
theorem own_set {w : World} {base e size n o : Nat} {v : Value} {xs vs : List Value} (h : w.ownsRow base e size v n xs) (hv : v ≠ .slice none 0 0) (ho : o + vs.length ≤ n * size) :
    ∃ g cur, v.ownBlock = some g ∧ base ≤ g ∧ w.heap[g]? = some (.cells cur e (0, 0)) ∧ Ptr v o = .pointer (some ⟨g, o, none⟩) ∧ o + vs.length ≤ cur.size ∧ (w.setRow g (splice cur o vs)).ownsRow base e size v n (lset xs o vs) := by
  rcases h.2 with ⟨h', _⟩ | ⟨g, cap, cur, rfl, hb, hg, hnc, hcm, hcs, htake⟩
  · exact absurd h' hv
  · have hcap : n * size ≤ cap * size := Nat.mul_le_mul_right _ hnc
    refine ⟨g, cur, rfl, hb, hg, by simp [Ptr], by omega, by rw [lset_len (by rw [h.1]; exact ho)]; exact h.1, .inr ⟨g, cap, splice cur o vs, rfl, hb, setRow_heap w g cur _ e (0, 0) hg, hnc, hcm, by rw [splice_size (by omega)]; exact hcs, ?_⟩⟩
    unfold splice lset
    simp only
    rw [← htake, List.take_append, List.take_append, List.take_take, List.drop_take]
    simp only [List.length_append, List.length_take, Array.length_toList]
    rw [show min o cur.size = o by omega, Nat.min_eq_right (by omega), List.take_of_length_le (l := vs) (by omega)]
    rw [List.take_take, show min o (n * size) = o by omega]
section
variable {X : Ctx} {P : Program} {u : World} {ow : List Nat} {bl : List KB} {KW : Value → World → Prop}
/-- A store into a list of the call's own. -/
theorem a_store {t ty e size base n o m : Nat} {pa pb : Operand} {l : List (Nat × Value)} {v x : Value} {xs vs : List Value} (hX : Std X) (hP : X.P = P) (ht : sz P t = some m) (e1 : argsFn l pa = Ptr v o) (e2 : argsFn l pb = x)
    (hx : x.cells = vs.toArray) (hm : vs.length = m) (h1 : vs.all (·.oneCell') = true) (hown : u.ownsRow base e size v n xs) (hb0 : X.w0.heap.size ≤ base) (ho : o + m ≤ n * size) (h0 : 0 < m)
    (hvo : ∀ g, v.ownBlock = some g → g ∉ ow) (hvb : ∀ w, KnownV X u ow bl w → ∀ g, v.ownBlock = some g → g ∉ bl.map (·.b))
    (hK : ∀ q w w', KnownV X u ow bl w → Kn X w' → Stp v.ownBlock.toList w w' → Stp (ow ++ v.ownBlock.toList) u w' → w'.ownsRow base e size v n (lset xs o vs) → KW q w') :
    AskO X u ow bl true (.store t pa pb) ty l KW := by
  subst hP
  have hv : v ≠ .slice none 0 0 := by
    intro hv
    rcases hown.2 with ⟨_, hn⟩ | ⟨g, cap, cur, rfl, _⟩
    · rw [hn] at ho; omega
    · cases hv
  have key : ∀ w, KnownV X u ow bl w → ∃ g cur, v.ownBlock = some g ∧ X.mine g ∧ (execOp (argsFn l) ⟨none, .store t pa pb, ty, "", #[], none⟩).run X.P w = .ok .skip (w.setRow g (splice cur o vs)) ∧
      (w.setRow g (splice cur o vs)).ownsRow base e size v n (lset xs o vs) := fun w hw => by
    obtain ⟨g, cur, hg, hbg, hrow, hp, hle, hown'⟩ := own_set (vs := vs) (o := o) (own_stp hown hw.stp hvo) hv (by omega)
    refine ⟨g, cur, hg, (hX g).2 (Nat.le_trans hb0 hbg), ?_, hown'⟩
    have hr := store_run (X := X) (t := t) (w := w) (o := o) (v := x) ht hrow (by rw [hx]; simpa using hm) (by omega) (by rw [hx]; simpa using h1)
    rw [hx] at hr
    simp only [execOp, e1, e2, hp, Sem.run_bind]
    rw [hr]
    rfl
  refine askE_intro (fun w hw => ?_) fun q w' ⟨w, hw, hr⟩ => ?_
  · obtain ⟨g, cur, hg, hmine, hr, _⟩ := key w hw
    refine ⟨undef, _, hr, rfl, rfl, rfl, by simp [World.setRow], fun b hb hmd => ?_⟩
    rcases Nat.decEq b g with hne | rfl
    · exact setRow_other w g b _ hne
    · rcases hmd rfl with h | h
      · exact absurd hmine h
      · exact absurd h (hvb w hw _ hg)
  · obtain ⟨g, cur, hg, hmine, hr1, ho'⟩ := key w hw
    have hr : (execOp (argsFn l) ⟨none, .store t pa pb, ty, "", #[], none⟩).run X.P w = .ok .skip w' := hr
    rw [hr1] at hr
    cases hr
    have hs : Stp v.ownBlock.toList w (w.setRow g (splice cur o vs)) := ⟨by simp [World.setRow], fun b _ hn => setRow_other w g b _ fun h => hn (by rw [hg, h]; simp)⟩
    refine hK _ w _ hw ⟨fun _ _ _ => rfl, Nat.le_refl _, fun b hb => ?_, Nat.le_trans hw.sz0 hs.size, hw.os, hw.tape, hw.output, fun _ h => by cases h⟩ hs (hw.stp.trans hs) ho'
    rw [setRow_other w g b _ (fun h => hb (by rw [h]; exact hmine))]
    exact hw.keep b hb
end
end Go.Vc
