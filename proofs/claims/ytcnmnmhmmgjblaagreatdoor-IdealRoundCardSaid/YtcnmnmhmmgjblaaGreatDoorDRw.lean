/-
  Many lists of one's own, of one element type: appended to, read again.
-/
import Derived.Test.YtcnmnmhmmgjblaaGreatDoorVcMut
namespace Go.Vc
open Go Go.RowKit
/-! ### an append that tells whether the list has moved -/
section
variable {X : Ctx} {u : World} {bl bl' : List KB} {KW : Value → World → Prop}
/-- A literal appended: the list stays, or moves to a block that nobody knows. -/
theorem a_pushN {P : Program} {t e ty ty' size bytes : Nat} {a b k : Nat} {z : Value} {base n : Nat} {v : Value} {xs : List Value} {parts : Array (Nat × Operand)} {args : List (Nat × Value)} {ow : List Nat} (cells : Array Value)
    (hX : Std X) (hP : X.P = P) (hT : ElTy P t e size bytes z) (hab : (a == b) = false) (hzs : z.cells.size = size) (hsz : 0 < size)
    (hsmall : ¬ k * size > 2 ^ 24) (hpos : ¬ k * size = 0)
    (hf : Instr.fill (fun i => some (i * size, size)) ((Array.range (k * size)).map (z.cells[· % z.cells.size]!)) (parts.map fun (i, x) => (i, argsFn args x)).toList = some cells)
    (hcs : cells.size = k * size) (hone : cells.all (·.oneCell') = true) (hlow : ∀ g, v.ownBlock = some g → g ∉ bl'.map (·.b)) (hlo : ∀ g, v.ownBlock = some g → g ∉ ow)
    (hb0 : X.w0.heap.size ≤ base) (hbase : base ≤ u.heap.size) (hown : u.ownsRow base e size v n xs)
    (h63 : n + k ≤ maxLen) (hbytes : (n + k) * bytes ≤ 140737488355328)
    (hK : ∀ v' w', Kn X w' → Stp (ow ++ v.ownBlock.toList) u w' → w'.ownsRow base e size v' (n + k) (xs ++ cells.toList) → (v'.ownBlock = v.ownBlock ∨ ∃ g, v'.ownBlock = some g ∧ u.heap.size ≤ g ∧ g ∉ bl'.map (·.b)) → KW v' w') :
    AskO X u ow bl false (.buildSlice t k parts) ty args fun x w => AskO X w [] bl' true (appOp (.tmp a) (.tmp b) t) ty' [(a, v), (b, x)] KW := by
  refine a_build cells hX hP hT hsmall hpos hf hcs (by omega) fun x w w1 hw hk1 hs1 hsu hown1 => ?_
  refine a_append hX hP hT (by simp [argsFn]) (by simp [argsFn, hab]) hzs hsz hb0 (Nat.le_trans hbase (Nat.le_trans hw.size hs1.size)) (own_stp hown hsu hlo) (fun w2 hw2 => (own_slAt hown1).stp0 hw2.stp) (by simpa using hcs) (fun c hc => Array.all_eq_true_iff_forall_mem.1 hone c (by simpa using hc))
    (fun _ _ => List.not_mem_nil) (fun _ _ => hlow) h63 hbytes fun v' w2 w' hw2 hk' hs2 hs3 hown' hbl => ?_
  have h12 : Stp ow u w2 := by simpa using hsu.trans hw2.stp
  exact hK v' w' hk' (h12.trans hs2) hown' (hbl.imp_right fun h => ⟨_, h, h12.size, fun hm => Nat.lt_irrefl _ (hw2.low hm)⟩)
end
/-! ### many rows -/
/-- N lists of the call's own, apart from one another and from the variables nb. -/
structure MRows {α : Type} (U w : World) (e s : Nat) (enc : α → List Value) (nb : List Nat) (N : Nat) (V : Nat → Value) (l : Nat → List α) : Prop where
  low : Stp [] U w
  row : ∀ j, j < N → w.ownsRow U.heap.size e s (V j) (l j).length ((l j).flatMap enc)
  ap : ∀ i j g, i < N → j < N → (V i).ownBlock = some g → (V j).ownBlock = some g → i = j
  off : ∀ j, j < N → ∀ g, (V j).ownBlock = some g → g ∉ nb
section
variable {α : Type} {U w w' : World} {e s : Nat} {enc : α → List Value} {nb : List Nat} {N : Nat} {V : Nat → Value} {l : Nat → List α}
theorem MRows.nil (U : World) (hs : Stp [] U w) (enc : α → List Value) (nb : List Nat) (N e s : Nat) : MRows U w e s enc nb N (fun _ => .slice none 0 0) (fun _ => []) :=
  ⟨hs, fun _ _ => World.ownsRow_nil _ _ _ _, fun _ _ _ _ _ h => by simp [Value.ownBlock] at h, fun _ _ _ h => by simp [Value.ownBlock] at h⟩
theorem MRows.stp (h : MRows U w e s enc nb N V l) (hs : Stp [] w w') : MRows U w' e s enc nb N V l := ⟨h.low.trans0 hs, fun j hj => own_stp0 (h.row j hj) hs, h.ap, h.off⟩
/-- Writes to variables. -/
theorem MRows.stpE {ex : List Nat} (h : MRows U w e s enc nb N V l) (hs : Stp ex w w') (he : ∀ b ∈ ex, b ∈ nb) (hU : ∀ b ∈ ex, U.heap.size ≤ b) : MRows U w' e s enc nb N V l :=
  ⟨(h.low.trans hs).drop (by simpa using hU), fun j hj => own_stp (h.row j hj) hs fun g hg hm => h.off j hj g hg (he g hm), h.ap, h.off⟩
theorem MRows.more (h : MRows U w e s enc nb N V l) {b : Nat} (hb : w.heap.size ≤ b) : MRows U w e s enc (b :: nb) N V l :=
  ⟨h.low, h.row, h.ap, fun j hj g hg hm => by
    rcases List.mem_cons.1 hm with rfl | hm
    · have := ((h.row j hj).lt g hg).2; omega
    · exact h.off j hj g hg hm⟩
theorem MRows.less {nb' : List Nat} (h : MRows U w e s enc nb N V l) (hn : ∀ b ∈ nb', b ∈ nb) : MRows U w e s enc nb' N V l := ⟨h.low, h.row, h.ap, fun j hj g hg hm => h.off j hj g hg (hn g hm)⟩
theorem MRows.congr {l' : Nat → List α} (h : MRows U w e s enc nb N V l) (he : ∀ j, j < N → l j = l' j) : MRows U w e s enc nb N V l' := ⟨h.low, fun j hj => by rw [← he j hj]; exact h.row j hj, h.ap, h.off⟩
theorem MRows.congrV {V' : Nat → Value} {l' : Nat → List α} (h : MRows U w e s enc nb N V l) (hv : ∀ j, j < N → V j = V' j) (he : ∀ j, j < N → l j = l' j) : MRows U w e s enc nb N V' l' :=
  ⟨h.low, fun j hj => by rw [← he j hj, ← hv j hj]; exact h.row j hj, fun i j g hi hj h1 h2 => h.ap i j g hi hj (by rw [hv i hi]; exact h1) (by rw [hv j hj]; exact h2), fun j hj g hg => h.off j hj g (by rw [hv j hj]; exact hg)⟩
theorem MRows.put {i k : Nat} (h : MRows U w e s enc nb N V l) (hi : i < N) {v' : Value} {zs : List α} {ow : List Nat} {bs : List Nat} (hs : Stp (ow ++ (V i).ownBlock.toList) w w') (ho : ∀ b ∈ ow, b ∈ nb ∧ U.heap.size ≤ b) (hk : zs.length = k)
    (hrow : w'.ownsRow U.heap.size e s v' ((l i).length + k) ((l i).flatMap enc ++ zs.flatMap enc)) (hnb : ∀ b ∈ nb, b < w.heap.size ∨ b ∈ bs) (hmv : v'.ownBlock = (V i).ownBlock ∨ ∃ g, v'.ownBlock = some g ∧ w.heap.size ≤ g ∧ g ∉ bs) :
    MRows U w' e s enc nb N (upd V i v') (upd l i (l i ++ zs)) := by
  have hlt : ∀ j g, j < N → (V j).ownBlock = some g → g < w.heap.size := fun j g hj hg => ((h.row j hj).lt g hg).2
  refine ⟨(h.low.trans hs).drop fun b hb => ?_, fun j hj => ?_, fun p q g hp hq h1 h2 => ?_, fun j hj g hg hm => ?_⟩
  · simp only [List.nil_append, List.mem_append] at hb
    rcases hb with hb | hb
    · exact (ho b hb).2
    · exact ((h.row i hi).lt b (by simpa using hb)).1
  · by_cases hji : j = i
    · subst hji
      rw [upd_same, upd_same, List.length_append, hk, List.flatMap_append]; exact hrow
    · rw [upd_ne _ _ hji, upd_ne _ _ hji]
      refine own_stp (h.row j hj) hs fun g hg hm => ?_
      rcases List.mem_append.1 hm with hm | hm
      · exact h.off j hj g hg (ho g hm).1
      · exact hji (h.ap j i g hj hi hg (by simpa using hm))
  · by_cases hpi : p = i
    · by_cases hqi : q = i
      · rw [hpi, hqi]
      · subst hpi
        rw [upd_same] at h1
        rw [upd_ne _ _ hqi] at h2
        rcases hmv with hmv | ⟨g', hg', hge, _⟩
        · exact h.ap _ _ g hp hq (hmv ▸ h1) h2
        · rw [hg'] at h1; cases h1
          have := hlt q _ hq h2; omega
    · by_cases hqi : q = i
      · subst hqi
        rw [upd_same] at h2
        rw [upd_ne _ _ hpi] at h1
        rcases hmv with hmv | ⟨g', hg', hge, _⟩
        · exact h.ap _ _ g hp hq h1 (hmv ▸ h2)
        · rw [hg'] at h2; cases h2
          have := hlt p _ hp h1; omega
      · rw [upd_ne _ _ hpi] at h1
        rw [upd_ne _ _ hqi] at h2
        exact h.ap p q g hp hq h1 h2
  · by_cases hji : j = i
    · subst hji
      rw [upd_same] at hg
      rcases hmv with hmv | ⟨g', hg', hge, hnm⟩
      · exact h.off _ hj g (hmv ▸ hg) hm
      · rw [hg'] at hg; cases hg
        rcases hnb g hm with h1 | h1
        · omega
        · exact hnm h1
    · rw [upd_ne _ _ hji] at hg
      exact h.off j hj g hg hm
end
/-- A literal appended to one of many. -/
theorem a_pushR {α : Type} {X : Ctx} {u U : World} {bl bl' : List KB} {KW : Value → World → Prop} {P : Program} {t e ty ty' size bytes : Nat} {a b : Nat} {z : Value} {parts : Array (Nat × Operand)} {args : List (Nat × Value)} {enc : α → List Value} {nb ow : List Nat} {N i : Nat} {V : Nat → Value} {l : Nat → List α}
    (zs : List α) (k : Nat) (hk : zs.length = k) (hX : Std X) (hP : X.P = P) (hT : ElTy P t e size bytes z) (hab : (a == b) = false) (hzs : z.cells.size = size) (hsz : 0 < size) (hlen : ∀ x, (enc x).length = size) (hR : MRows U u e size enc nb N V l) (hi : i < N) {v : Value} (hv : V i = v)
    (hU : X.w0.heap.size ≤ U.heap.size) (hnb : ∀ b ∈ nb, b < u.heap.size ∨ b ∈ bl'.map (·.b)) (hsub : ∀ b ∈ bl'.map (·.b), b ∈ nb) (ho : ∀ b ∈ ow, b ∈ nb ∧ U.heap.size ≤ b)
    (hsmall : ¬ k * size > 2 ^ 24) (hpos : ¬ k * size = 0)
    (hf : Instr.fill (fun i => some (i * size, size)) ((Array.range (k * size)).map (z.cells[· % z.cells.size]!)) (parts.map fun (i, x) => (i, argsFn args x)).toList = some (zs.flatMap enc).toArray)
    (hone : (zs.flatMap enc).all (·.oneCell') = true)
    (h63 : (l i).length + k ≤ maxLen) (hbytes : ((l i).length + k) * bytes ≤ 140737488355328)
    (hK : ∀ v' w', Kn X w' → Stp (ow ++ v.ownBlock.toList) u w' → MRows U w' e size enc nb N (upd V i v') (upd l i (l i ++ zs)) → KW v' w') :
    AskO X u ow bl false (.buildSlice t k parts) ty args fun x w => AskO X w [] bl' true (appOp (.tmp a) (.tmp b) t) ty' [(a, v), (b, x)] KW := by
  subst hv
  have hcs : (zs.flatMap enc).length = k * size := by rw [flat_len hlen, hk]
  refine a_pushN (zs.flatMap enc).toArray hX hP hT hab hzs hsz hsmall hpos hf (by simpa using hcs) (by simpa using hone) (fun g hg hm => hR.off i hi g hg (hsub g hm)) (fun g hg hm => hR.off i hi g hg (ho g hm).1) hU hR.low.size (hR.row i hi) h63 hbytes fun v' w' hk' hs hrow hmv => ?_
  exact hK v' w' hk' hs (hR.put hi hs ho hk (by simpa using hrow) hnb hmv)
end Go.Vc
