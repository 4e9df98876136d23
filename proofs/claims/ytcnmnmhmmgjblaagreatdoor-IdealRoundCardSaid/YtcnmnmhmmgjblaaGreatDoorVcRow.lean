/-
  From a row's words to a walk's: laid variables of whole numbers; scalars that come in.
-/
import Derived.Test.YtcnmnmhmmgjblaaGreatDoorVcTac
import Derived.ProofKit
import Derived.OpenShut
import Derived.LaidMore
import Derived.Stop.Joined
import Derived.Carry
import Derived.MakeChecks
import Derived.Deep.Slices
namespace Go.Vc
open Go Go.RowKit Go.ChangeShapes Go.WideShapes Go.ChangeAt Go.WideMaps Go.WideElems
/-- Arrays of whole numbers, however deep. -/
def intTy (P : Program) : Nat → TypeId → Bool
  | 0, _ => false
  | n + 1, t => match P.underlying t with
    | some (.int _) => true
    | some (.array m e) => intTy P n e && P.cellsOf t == m * P.cellsOf e
    | _ => false
mutual
def flatD {H : Type} : DataW H → List Value
  | .lit (.int k n) => [.int k n]
  | .agg ds => flatDs ds
  | _ => []
def flatDs {H : Type} : List (DataW H) → List Value
  | [] => []
  | d :: r => flatD d ++ flatDs r
end
theorem flatDs_eq {H : Type} (ds : List (DataW H)) : flatDs ds = ds.flatMap flatD := by
  induction ds with
  | nil => rfl
  | cons d r ih => rw [flatDs, ih, List.flatMap_cons]
theorem chunks {α : Type} {f : α → List Value} {c : Nat} : ∀ (ds : List α) (cs : List Value), cs.length = ds.length * c → (∀ (i : Nat) (d : α), ds[i]? = some d → (cs.drop (i * c)).take c = f d) → cs = ds.flatMap f
  | [], cs, hl, _ => by simpa using hl
  | d :: r, cs, hl, h => by
    have h0 := h 0 d rfl
    rw [Nat.zero_mul, List.drop_zero] at h0
    have hr := chunks r (cs.drop c) (by rw [List.length_drop, hl, List.length_cons, Nat.add_mul, Nat.one_mul, Nat.add_sub_cancel]) fun i x hx => by
      rw [List.drop_drop]
      have := h (i + 1) x (by simpa using hx)
      rw [Nat.add_mul, Nat.one_mul, Nat.add_comm] at this
      exact this
    rw [List.flatMap_cons, ← hr, ← h0, List.take_append_drop]
theorem trod_flat {H : Type} {enc : TypeId × Value → H} {P : Program} {w : World} {base : Nat} {spare : Nat → Bool} {held : Bool} : ∀ (n fuel : Nat) (t : TypeId) (cs : List Value) (x : DataW H × List MemPlace),
    intTy P n t = true → DataW.trod enc P w base spare held fuel t cs = some x → cs = flatD x.1
  | 0, _, _, _, _, h, _ => by cases h
  | n + 1, fuel, t, cs, x, h, hd => by
    unfold intTy at h
    split at h
    · rename_i k hu
      obtain ⟨m, h1, h2, _⟩ := DataW.trod_int hu hd
      rw [h1, h2]; rfl
    · rename_i m e hu
      simp only [Bool.and_eq_true, beq_iff_eq] at h
      obtain ⟨xs, f, _, hx, hl, hn, hel⟩ := DataW.trod_array hu hd
      subst hn
      rw [hx]
      show cs = flatDs (xs.map (·.1))
      rw [flatDs_eq, List.flatMap_map]
      refine chunks xs cs (by rw [hl, h.2]) fun i d hi => ?_
      have hlt : i < xs.length := (List.getElem?_eq_some_iff.1 hi).1
      exact trod_flat n f e _ d h.1 ((hel i hlt).trans hi)
    · cases h
/-- The cells that a laid variable of whole numbers holds. -/
theorem laidVars_cells {P : Program} {w : World} : ∀ {laid : List (String × DataW Unit)} {ps : List MemPlace}, DataW.LaidVars P w laid ps → ∀ (n : String) (D : DataW Unit), (n, D) ∈ laid → ∀ (g t : Nat), P.globalNamed n = some g → (P.globals[g]?).map (·.type) = some t →
    intTy P 8 t = true → ∀ (i : Nat) (v : Value), (flatD D)[i]? = some v → w.cell? ⟨g, i, none⟩ = some v
  | [], _, _, n, D, hm, _, _, _, _, _, _, _, _ => by cases hm
  | (n', D') :: r, ps, h, n, D, hm, g, t, hg, ht, hi, i, v, hv => by
    obtain ⟨g0, t0, cs, fuel, p, q, h1, h2, h3, h4, h5, _⟩ := h
    rcases List.mem_cons.1 hm with he | hm
    · cases he
      obtain rfl := Option.some.inj (hg.symm.trans h1)
      obtain rfl := Option.some.inj (ht.symm.trans h2)
      have := trod_flat 8 fuel t cs.toList _ hi h4
      rw [World.var?_cell h1 h3 i, ← Array.getElem?_toList, this]
      exact hv
    · exact laidVars_cells h5 n D hm g t hg ht hi i v hv
theorem laid_cells {P : Program} {w : World} {laid : List (String × DataW Unit)} (h : laidMetH P laid w) (hp : (laid.all fun x => x.2.handleName?.isNone) = true) (n : String) (D : DataW Unit) (hm : (n, D) ∈ laid) (g t : Nat) (hg : P.globalNamed n = some g) (ht : (P.globals[g]?).map (·.type) = some t)
    (hi : intTy P 8 t = true) : ∀ (i : Nat) (v : Value), (flatD D)[i]? = some v → w.cell? ⟨g, i, none⟩ = some v := by
  rw [MakeChecks.laidMetH_plain _ _ _ hp] at h
  obtain ⟨ps, hv, _⟩ := h
  exact laidVars_cells hv n D hm g t hg ht hi
/-- A scalar that comes in. -/
theorem trod_S {H : Type} {enc : TypeId × Value → H} {P : Program} {w : World} {base : Nat} {spare : Nat → Bool} {held : Bool} {fuel t e : Nat} {cs : List Value} {x : DataW H × List MemPlace} (ht : P.underlying t = some (.array 4 e)) (he : P.underlying e = some (.int .u64)) (hc : P.cellsOf e = 1) (hct : P.cellsOf t = 4)
    (h : DataW.trod enc P w base spare held fuel t cs = some x) : ∃ n, cs = encS n ∧ n < W256 := by
  obtain ⟨xs, f, _, hx, hl, hn, hel⟩ := DataW.trod_array ht h
  rw [hct] at hl
  rw [hc] at hel
  match cs, hl with
  | [c0, c1, c2, c3], _ =>
    have lim : ∀ (i : Nat) (c : Value), i < 4 → [c0, c1, c2, c3][i]? = some c → ∃ a, c = U a ∧ a < B64 := fun i c hi hci => by
      have h1 := hel i hi
      have hxi : xs[i]? = some xs[i] := List.getElem?_eq_getElem (by omega)
      rw [hxi] at h1
      obtain ⟨k, e1, _, hw⟩ := DataW.trod_int he h1
      have e2 : ([c0, c1, c2, c3].drop (i * 1)).take 1 = [c] := by
        match i, hi, hci with
        | 0, _, hci | 1, _, hci | 2, _, hci | 3, _, hci => simpa using hci
      rw [e2] at e1
      simp only [List.cons.injEq, and_true] at e1
      have hb : 0 ≤ k ∧ k ≤ 18446744073709551615 := by simpa [Lit.wf, IntKind.min, IntKind.max, IntKind.signed, IntKind.bits] using hw
      exact ⟨k.toNat, by rw [e1]; unfold U; congr 1; omega, by simp only [B64]; omega⟩
    obtain ⟨a0, rfl, h0⟩ := lim 0 c0 (by omega) rfl
    obtain ⟨a1, rfl, h1⟩ := lim 1 c1 (by omega) rfl
    obtain ⟨a2, rfl, h2⟩ := lim 2 c2 (by omega) rfl
    obtain ⟨a3, rfl, h3⟩ := lim 3 c3 (by omega) rfl
    obtain ⟨e0, e1, e2, e3⟩ := limbs_of h0 h1 h2 h3
    exact ⟨a0 + B64 * a1 + B64 ^ 2 * a2 + B64 ^ 3 * a3, by unfold encS; rw [e0, e1, e2, e3], num_lt h0 h1 h2 h3⟩
/-! ### arguments behind the call -/
theorem trodAll_below {H : Type} {enc : TypeId × Value → H} {P : Program} (hl : laidOutB P = true) {W W' : World} (bel : Below W.heap.size W W') : ∀ {ts : List TypeId} {vs : List Value} {ds : List (DataW H)} {p : List MemPlace},
    (ts.all fun t => P.readableRec t && decide (t < P.types.size)) = true → DataW.TrodAll enc P W 0 (fun _ => true) true ts vs ds p → DataW.TrodAll enc P W' 0 (fun b => decide (b < W.heap.size)) true ts vs ds p
  | [], [], [], _, _, h => h
  | t :: ts, v :: vs, d :: ds, p, hr, h => by
    obtain ⟨p0, q0, h0, h1, rfl⟩ := h
    simp only [List.all_cons, Bool.and_eq_true, decide_eq_true_eq] at hr
    have lt0 : ∀ x ∈ p0, x.block < W.heap.size := by obtain ⟨m, hm⟩ := h0; exact DataW.trod_lt m _ _ _ hm
    exact ⟨p0, q0, Below.trod hl hr.1.1 hr.1.2 h0 bel lt0, trodAll_below hl bel hr.2 h1, rfl⟩
  | [], _ :: _, _, _, _, h => h.elim
  | [], [], _ :: _, _, _, h => h.elim
  | _ :: _, [], _, _, _, h => h.elim
  | _ :: _, _ :: _, [], _, _, h => h.elim
/-! ### lists that come in -/
theorem exists_list {α : Type} (Q : Nat → α → Prop) : ∀ n : Nat, (∀ i, i < n → ∃ a, Q i a) → ∃ l : List α, l.length = n ∧ ∀ (i : Nat) (a : α), l[i]? = some a → Q i a
  | 0, _ => ⟨[], rfl, fun i a h => by simp at h⟩
  | n + 1, h => by
    obtain ⟨l, hl, hq⟩ := exists_list Q n fun i hi => h i (by omega)
    obtain ⟨a, ha⟩ := h n (by omega)
    refine ⟨l ++ [a], by simp [hl], fun i b hb => ?_⟩
    rcases Nat.lt_or_ge i l.length with hi | hi
    · rw [List.getElem?_append_left hi] at hb; exact hq i b hb
    · rw [List.getElem?_append_right hi] at hb
      have : i - l.length = 0 := by
        have := (List.getElem?_eq_some_iff.1 hb).1
        simp at this; omega
      rw [this] at hb
      simp at hb
      subst hb
      have : i = n := by omega
      subst this; exact ha
theorem cells_at {w : World} {base n : Nat} {a : Addr} {cs : List Value} (h : w.cells? base a n = some cs) : cs.length = n ∧ ∀ (j : Nat) (c : Value), cs[j]? = some c → w.cell? (a.add j) = some c := by
  unfold World.cells? at h
  split at h
  · have hl : cs.length = n := by simpa using mapM_some_length h
    refine ⟨hl, fun j c hj => ?_⟩
    have hjn : j < n := by rw [← hl]; exact (List.getElem?_eq_some_iff.1 hj).1
    have := mapM_some_get h j j (by simp [hjn])
    rw [this]; exact hj
  · cases h
theorem flat_inv {α : Type} {enc : α → List Value} {s : Nat} (hlen : ∀ x, (enc x).length = s) {l : List α} {k : Nat} {c : Value} (h : (l.flatMap enc)[k]? = some c) : ∃ (i j : Nat) (a : α), l[i]? = some a ∧ k = i * s + j ∧ (enc a)[j]? = some c := by
  have hk : k < l.length * s := by rw [← flat_len hlen]; exact (List.getElem?_eq_some_iff.1 h).1
  have hs : 0 < s := by
    rcases Nat.eq_zero_or_pos s with h0 | h0
    · rw [h0] at hk; omega
    · exact h0
  have hi : k / s < l.length := Nat.div_lt_of_lt_mul (by rw [Nat.mul_comm]; exact hk)
  have hj : k % s < s := Nat.mod_lt _ hs
  have e : k = k / s * s + k % s := by rw [Nat.mul_comm]; exact (Nat.div_add_mod k s).symm
  refine ⟨k / s, k % s, l[k / s], List.getElem?_eq_getElem hi, e, ?_⟩
  have hjl : k % s < (enc l[k / s]).length := by rw [hlen]; exact hj
  have hc : (enc l[k / s])[k % s]? = some ((enc l[k / s])[k % s]'hjl) := List.getElem?_eq_getElem hjl
  have := flat_at hlen l (k / s) _ (List.getElem?_eq_getElem hi) (k % s) _ hc
  rw [← e, h] at this
  rw [hc, this]
/-- How many elements a reading shows. -/
def lenD {H : Type} : DataW H → Nat
  | .slice elems _ => elems.length
  | _ => 0
theorem trod_Ls {α H : Type} {enc : TypeId × Value → H} {P : Program} {W : World} {base : Nat} {spare : Nat → Bool} {held : Bool} {fuel t e s : Nat} {cs : List Value} {x : DataW H × List MemPlace} {encA : α → List Value} {ok : α → Prop}
    (ht : P.underlying t = some (.slice e)) (hs : P.cellsOf e = s) (hlen : ∀ a, (encA a).length = s) (helem : ∀ (fuel : Nat) (cs : List Value) (x : DataW H × List MemPlace), DataW.trod enc P W base spare held fuel e cs = some x → ∃ a, cs = encA a ∧ ok a)
    (hsp : ∀ a l c, cs = [.slice (some a) l c] → a.spot = none) (h : DataW.trod enc P W base spare held fuel t cs = some x) : ∃ (v : Value) (l : List α), cs = [v] ∧ Ls encA ok W v l ∧ lenD x.1 = l.length := by
  rcases Deep.open_slice ht h with ⟨rfl, rfl⟩ | ⟨a, len, cap, m, n, D, Pl, rfl, hb, hl, hm, hmm, rfl, hx⟩
  · exact ⟨_, [], rfl, ⟨.inl ⟨rfl, rfl, rfl⟩, fun x hx => by cases hx⟩, rfl⟩
  · have hsp := hsp a len cap rfl
    obtain ⟨b, o, sp⟩ := a
    obtain rfl : sp = none := hsp
    have hlm : len ≤ m := by rw [hmm]; split <;> omega
    obtain ⟨l, hll, hq⟩ := exists_list (fun i a => W.cells? base ((⟨b, o, none⟩ : Addr).add (i * s)) s = some (encA a) ∧ ok a) len fun i hi => by
      obtain ⟨cs', h1, h2⟩ := hx i (by omega)
      obtain ⟨a, rfl, ha⟩ := helem n cs' _ h2
      rw [hs] at h1
      exact ⟨a, h1, ha⟩
    refine ⟨_, l, rfl, ⟨.inr ⟨b, o, cap, by rw [hll], ⟨by omega, hm⟩, fun k c hk => ?_⟩, fun a ha => ?_⟩, by simp [lenD, hll]⟩
    · obtain ⟨i, j, a, hi, rfl, hj⟩ := flat_inv hlen hk
      have := (cells_at (hq i a hi).1).2 j c hj
      rw [add_none, add_none] at this
      rw [← Nat.add_assoc]; exact this
    · obtain ⟨i, hi⟩ := List.getElem?_of_mem ha
      exact (hq i a hi).2
/-- The address of a slice that came in names no part. -/
theorem spot_of {P : Program} {w : World} {r : Reach} {base t : Nat} {v : Value} (h : Cell.okWide P w r base t v) {e : TypeId} (ht : P.underlying t = some (.slice e)) : ∀ a l c, v = .slice (some a) l c → a.spot = none := by
  rintro a l c rfl
  unfold Cell.okWide at h
  rw [ht] at h
  simp only [Cell.ok, ht] at h
  exact h.2.2.2.1
end Go.Vc
