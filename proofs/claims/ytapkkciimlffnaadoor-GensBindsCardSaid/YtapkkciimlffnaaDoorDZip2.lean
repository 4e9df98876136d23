/-
  Lists with a mark behind them; terms of two lists.
-/
import Derived.Test.YtapkkciimlffnaaDoorDGen
import Derived.Test.YtapkkciimlffnaaDoorDZip
namespace Go.Vc
open Go Go.Proofs Go.RowKit

/-! ### a list with a mark behind it -/
theorem ok77 : okS 77 := by unfold okS; decide
/-- A list, and the mark 77 behind it. -/
def cMk : Cod (List Nat) := ⟨fun w v l => ∃ g cap, v = .slice (some ⟨g, 0, none⟩) l.length cap ∧ SlAt w (.slice (some ⟨g, 0, none⟩) (l.length + 1) cap) (l.length + 1) ((l ++ [77]).flatMap encS) ∧ ∀ x ∈ l, okS x, fun w v a b ⟨g, cap, e, h, ok⟩ ⟨g', cap', e', h', ok'⟩ => by
  rw [e] at e'
  simp only [Value.slice.injEq, Option.some.injEq, Addr.mk.injEq, and_true] at e'
  obtain ⟨rfl, hl, rfl⟩ := e'
  rw [← hl] at h'
  have hx := (slAt_inj (by rw [flat_len encS_len, flat_len encS_len]; simp [hl]) h h').2
  have := flat_inj encS_len (fun _ _ ha hb h => encS_inj ha hb h) (a ++ [77]) (b ++ [77]) (fun x hx => (List.mem_append.1 hx).elim (ok x) (fun h => by simp at h; subst h; exact ok77)) (fun x hx => (List.mem_append.1 hx).elim (ok' x) (fun h => by simp at h; subst h; exact ok77)) (by simp [hl]) hx
  exact (List.append_inj this hl).1⟩
theorem cMk_stable : cMk.Stable := fun _ _ _ _ hs ⟨g, cap, e, h, ok⟩ => ⟨g, cap, e, h.stp0 hs, ok⟩
theorem slAt_cap {w : World} {a : Option Addr} {n cap m : Nat} {xs : List Value} (h : SlAt w (.slice a n cap) m xs) : m = n ∧ n ≤ cap := by
  rcases h with ⟨hv, rfl, _⟩ | ⟨b, o, cap', hv, hn, _⟩
  · cases hv; exact ⟨rfl, Nat.le_refl _⟩
  · cases hv; exact ⟨rfl, hn.1⟩
theorem mk_list {w : World} {v : Value} {l : List Nat} (h : cMk.rd w v l) : Ls encS okS w v l := by
  obtain ⟨g, cap, rfl, h, ok⟩ := h
  refine ⟨?_, ok⟩
  have hc := (slAt_cap h).2
  have := sub_first (m := [77]) h
  rw [sub_zero] at this
  exact this

def cCopied7 : Contract := fnW (Cods.cons cLS Cods.nil) (fun p _ => p.1.length ≤ mx) (fun p w v w' => cMk.rd w' v p.1 ∧ ∃ g, v.ownBlock = some g ∧ w.heap.size ≤ g)
theorem own_form {w : World} {base size n : Nat} {e : TypeId} {v : Value} {xs : List Value} (h : w.ownsRow base e size v n xs) (hn : 0 < n) : ∃ g cap, v = .slice (some ⟨g, 0, none⟩) n cap ∧ base ≤ g := by
  rcases h.2 with ⟨_, h0⟩ | ⟨g, cap, cur, rfl, hb, _⟩
  · omega
  · exact ⟨g, cap, rfl, hb⟩
/-- A load of element i. -/
theorem ld_S {X : Ctx} {u : World} {v : Value} {xs : List Value} {l : List Nat} {n i : Nat} {ow : List Nat} {K : Value → Prop} (hP : X.P = Tryd.prog) (hk : Kn X u) (h : SlAt u v n xs) (hx : xs = l.flatMap encS) (hn : l.length = n) (hi : i < l.length) (how : ∀ b, v.ownBlock = some b → b ∉ ow)
    (hK : K (S l[i])) : Ask (rIad X.P 25 v (J i)) fun p => Ask (rLoad X u ow 34 p) K := by
  subst hx
  refine a_iadN hP tyS h (by omega) ?_
  refine a_load_agg (cs := encS l[i]) hk h (by rw [hP]; exact aggS) (by rw [hP]; exact szS) how (by simp [encS]) (flat_at encS_len l i _ (List.getElem?_eq_getElem hi)) ?_
  exact hK

def cUnt : Contract := fnW (Cods.cons cMk (Cods.cons cLS Cods.nil)) (fun p _ => p.1 = p.2.1 ∧ p.1.length ≤ mx) (fun _ _ v _ => v = .bool true)
/-! ### terms -/
def encT (p : Nat × Nat) : List Value := encS p.1 ++ encS p.2
theorem encT_len (p : Nat × Nat) : (encT p).length = 8 := rfl
theorem one_encT (p : Nat × Nat) : (encT p).all (·.oneCell') = true := by simp [encT, encS, U, Value.oneCell']
theorem tyT : ElTy Tryd.prog 115 109 8 64 (.agg #[U 0, U 0, U 0, U 0, U 0, U 0, U 0, U 0]) := ⟨by kernel_rfl, by kernel_rfl⟩
theorem szT : sz Tryd.prog 109 = some 8 := by kernel_rfl
theorem aggT : agg? Tryd.prog 109 = some true := by kernel_rfl
theorem ld_L {X : Ctx} {u : World} {v : Value} {xs : List Value} {l : List Nat} {n i : Nat} {ow : List Nat} {K : Value → Prop} (hP : X.P = Tryd.prog) (hk : Kn X u) (h : SlAt u v n xs) (hx : xs = l.flatMap encS) (hn : l.length = n) (hi : i < l.length) (how : ∀ b, v.ownBlock = some b → b ∉ ow)
    (hK : K (S l[i])) : Ask (rIad X.P 83 v (J i)) fun p => Ask (rLoad X u ow 82 p) K := by
  subst hx
  refine a_iadN hP tyL h (by omega) ?_
  refine a_load_agg (cs := encS l[i]) hk h (by rw [hP]; exact aggL) (by rw [hP]; exact szL) how (by simp [encS]) (flat_at encS_len l i _ (List.getElem?_eq_getElem hi)) ?_
  exact hK

theorem makeT (n : Nat) : (madeCells (Value.agg #[U 0, U 0, U 0, U 0, U 0, U 0, U 0, U 0]).cells (n * 8)).toList = (List.replicate n ((0, 0) : Nat × Nat)).flatMap encT := made_enc (α := Nat × Nat) (enc := encT) (a := (0, 0)) (s := 8) (by kernel_rfl) rfl (by decide) n

def cZip : Contract := fnW (Cods.cons cLS (Cods.cons cLS Cods.nil)) (fun p _ => p.1.length ≤ mx ∧ p.2.1.length ≤ mx)
  (fun p w v w' => (p.1.length ≠ p.2.1.length → v = .tuple #[.slice none 0 0, J 2]) ∧ (p.1.length = p.2.1.length → ∃ x, v = .tuple #[x, J 0] ∧ (∃ g, x.ownBlock = some g) ∧ w'.ownsRow w.heap.size 109 8 x p.1.length ((p.1.zip p.2.1).flatMap encT)))
theorem zip_step {ks ps : List Nat} {k : Nat} (h1 : k < ks.length) (h2 : k < ps.length) (m : Nat) : (((ks.zip ps).take k ++ List.replicate (m + 1) (0, 0)).set k (ks[k], ps[k])) = (ks.zip ps).take (k + 1) ++ List.replicate m (0, 0) := by
  have hl : ((ks.zip ps).take k).length = k := by simp; omega
  rw [List.set_append_right _ _ (by omega), hl, Nat.sub_self, List.replicate_succ, List.set_cons_zero, List.take_succ_eq_append_getElem (by simp; omega)]
  simp
end Go.Vc
