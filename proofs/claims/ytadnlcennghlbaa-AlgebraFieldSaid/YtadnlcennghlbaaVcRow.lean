/-
  From a row's words to a walk's: laid variables of whole numbers; scalars that come in.
-/
import Derived.Test.YtadnlcennghlbaaVcTac
import Derived.ProofKit
import Derived.OpenShut
import Derived.LaidMore
import Derived.Stop.Joined
import Derived.Carry
import Derived.MakeChecks
import Derived.Deep.Slices
namespace Go.Vc
open Go Go.RowKit Go.ChangeShapes Go.WideShapes Go.ChangeAt Go.WideMaps Go.WideElems
/-! ### arguments behind the call -/
theorem trodAll_below {H : Type} {enc : TypeId × Value → H} {P : Program} (hl : laidOutB P = true) {W W' : World} (bel : Below W.heap.size W W') : ∀ {ts : List TypeId} {vs : List Value} {ds : List (DataW H)} {p : List MemPlace},
    (ts.all fun t => P.readableRec t && decide (t < P.types.size)) = true → DataW.TrodAll enc P W 0 (fun _ => true) true ts vs ds p → DataW.TrodAll enc P W' 0 (fun b => decide (b < W.heap.size)) true ts vs ds p
  | [], [], [], _, _, h => h
  | t :: ts, v :: vs, d :: ds, p, hr, h => by
    obtain ⟨p0, q0, h0, h1, rfl⟩ := h
    simp only [List.all_cons, Bool.and_eq_true, decide_eq_true_eq] at hr
    have lt0 : ∀ x ∈ p0, x.block < W.heap.size := by obtain ⟨m, hm⟩ := h0; exact DataW.trod_lt m _ _ _ hm
    exact ⟨p0, q0, Below.trod hl hr.1.1 hr.1.2 h0 bel lt0, trodAll_below hl bel hr.2 h1, rfl⟩
  | [], _ :: _, _, _, _, h => h.elim
  | [], [], _ :: _, _, _, h => h.elim
  | _ :: _, [], _, _, _, h => h.elim
  | _ :: _, _ :: _, [], _, _, h => h.elim
/-! ### lists that come in -/
theorem exists_list {α : Type} (Q : Nat → α → Prop) : ∀ n : Nat, (∀ i, i < n → ∃ a, Q i a) → ∃ l : List α, l.length = n ∧ ∀ (i : Nat) (a : α), l[i]? = some a → Q i a
  | 0, _ => ⟨[], rfl, fun i a h => by simp at h⟩
  | n + 1, h => by
    obtain ⟨l, hl, hq⟩ := exists_list Q n fun i hi => h i (by omega)
    obtain ⟨a, ha⟩ := h n (by omega)
    refine ⟨l ++ [a], by simp [hl], fun i b hb => ?_⟩
    rcases Nat.lt_or_ge i l.length with hi | hi
    · rw [List.getElem?_append_left hi] at hb; exact hq i b hb
    · rw [List.getElem?_append_right hi] at hb
      have : i - l.length = 0 := by
        have := (List.getElem?_eq_some_iff.1 hb).1
        simp at this; omega
      rw [this] at hb
      simp at hb
      subst hb
      have : i = n := by omega
      subst this; exact ha
theorem cells_at {w : World} {base n : Nat} {a : Addr} {cs : List Value} (h : w.cells? base a n = some cs) : cs.length = n ∧ ∀ (j : Nat) (c : Value), cs[j]? = some c → w.cell? (a.add j) = some c := by
  unfold World.cells? at h
  split at h
  · have hl : cs.length = n := by simpa using mapM_some_length h
    refine ⟨hl, fun j c hj => ?_⟩
    have hjn : j < n := by rw [← hl]; exact (List.getElem?_eq_some_iff.1 hj).1
    have := mapM_some_get h j j (by simp [hjn])
    rw [this]; exact hj
  · cases h
theorem flat_inv {α : Type} {enc : α → List Value} {s : Nat} (hlen : ∀ x, (enc x).length = s) {l : List α} {k : Nat} {c : Value} (h : (l.flatMap enc)[k]? = some c) : ∃ (i j : Nat) (a : α), l[i]? = some a ∧ k = i * s + j ∧ (enc a)[j]? = some c := by
  have hk : k < l.length * s := by rw [← flat_len hlen]; exact (List.getElem?_eq_some_iff.1 h).1
  have hs : 0 < s := by
    rcases Nat.eq_zero_or_pos s with h0 | h0
    · rw [h0] at hk; omega
    · exact h0
  have hi : k / s < l.length := Nat.div_lt_of_lt_mul (by rw [Nat.mul_comm]; exact hk)
  have hj : k % s < s := Nat.mod_lt _ hs
  have e : k = k / s * s + k % s := by rw [Nat.mul_comm]; exact (Nat.div_add_mod k s).symm
  refine ⟨k / s, k % s, l[k / s], List.getElem?_eq_getElem hi, e, ?_⟩
  have hjl : k % s < (enc l[k / s]).length := by rw [hlen]; exact hj
  have hc : (enc l[k / s])[k % s]? = some ((enc l[k / s])[k % s]'hjl) := List.getElem?_eq_getElem hjl
  have := flat_at hlen l (k / s) _ (List.getElem?_eq_getElem hi) (k % s) _ hc
  rw [← e, h] at this
  rw [hc, this]
/-- How many elements a reading shows. -/
def lenD {H : Type} : DataW H → Nat
  | .slice elems _ => elems.length
  | _ => 0
theorem trod_Ls {α H : Type} {enc : TypeId × Value → H} {P : Program} {W : World} {base : Nat} {spare : Nat → Bool} {held : Bool} {fuel t e s : Nat} {cs : List Value} {x : DataW H × List MemPlace} {encA : α → List Value} {ok : α → Prop}
    (ht : P.underlying t = some (.slice e)) (hs : P.cellsOf e = s) (hlen : ∀ a, (encA a).length = s) (helem : ∀ (fuel : Nat) (cs : List Value) (x : DataW H × List MemPlace), DataW.trod enc P W base spare held fuel e cs = some x → ∃ a, cs = encA a ∧ ok a)
    (hsp : ∀ a l c, cs = [.slice (some a) l c] → a.spot = none) (h : DataW.trod enc P W base spare held fuel t cs = some x) : ∃ (v : Value) (l : List α), cs = [v] ∧ Ls encA ok W v l ∧ lenD x.1 = l.length := by
  rcases Deep.open_slice ht h with ⟨rfl, rfl⟩ | ⟨a, len, cap, m, n, D, Pl, rfl, hb, hl, hm, hmm, rfl, hx⟩
  · exact ⟨_, [], rfl, ⟨.inl ⟨rfl, rfl, rfl⟩, fun x hx => by cases hx⟩, rfl⟩
  · have hsp := hsp a len cap rfl
    obtain ⟨b, o, sp⟩ := a
    obtain rfl : sp = none := hsp
    have hlm : len ≤ m := by rw [hmm]; split <;> omega
    obtain ⟨l, hll, hq⟩ := exists_list (fun i a => W.cells? base ((⟨b, o, none⟩ : Addr).add (i * s)) s = some (encA a) ∧ ok a) len fun i hi => by
      obtain ⟨cs', h1, h2⟩ := hx i (by omega)
      obtain ⟨a, rfl, ha⟩ := helem n cs' _ h2
      rw [hs] at h1
      exact ⟨a, h1, ha⟩
    refine ⟨_, l, rfl, ⟨.inr ⟨b, o, cap, by rw [hll], ⟨by omega, hm⟩, fun k c hk => ?_⟩, fun a ha => ?_⟩, by simp [lenD, hll]⟩
    · obtain ⟨i, j, a, hi, rfl, hj⟩ := flat_inv hlen hk
      have := (cells_at (hq i a hi).1).2 j c hj
      rw [add_none, add_none] at this
      rw [← Nat.add_assoc]; exact this
    · obtain ⟨i, hi⟩ := List.getElem?_of_mem ha
      exact (hq i a hi).2
/-- The address of a slice that came in names no part. -/
theorem spot_of {P : Program} {w : World} {r : Reach} {base t : Nat} {v : Value} (h : Cell.okWide P w r base t v) {e : TypeId} (ht : P.underlying t = some (.slice e)) : ∀ a l c, v = .slice (some a) l c → a.spot = none := by
  rintro a l c rfl
  unfold Cell.okWide at h
  rw [ht] at h
  simp only [Cell.ok, ht] at h
  exact h.2.2.2.1
end Go.Vc
