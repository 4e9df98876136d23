/-
  An append that must move: what lies in a row that is full.
-/
import Derived.Test.YtpfidanjeacihaaGreatDoorDFr9
namespace Go.Vc
open Go Go.Proofs Go.RowKit

section
variable {X : Ctx} {u : World} {ow : List Nat} {bl : List KB} {KW : Value → World → Prop}
/-- An append to a slice that has no room: the row is new, and the call's own. -/
theorem a_appGrow {P : Program} {t e ty size bytes : Nat} {a b : Operand} {l : List (Nat × Value)} {z : Value} {g cap n m : Nat} {x : Value} {xs ys : List Value}
    (hX : Std X) (hP : X.P = P) (hT : ElTy P t e size bytes z) (e1 : argsFn l a = .slice (some ⟨g, 0, none⟩) n cap) (e2 : argsFn l b = x) (hzs : z.cells.size = size)
    (hold : ∀ w, KnownV X u ow bl w → SlAt w (.slice (some ⟨g, 0, none⟩) n cap) n xs) (hxl : xs.length = n * size) (hx : ∀ w, KnownV X u ow bl w → SlAt w x m ys) (hl : ys.length = m * size)
    (hm : cap < n + m) (hn : n ≤ cap) (h63 : n + m ≤ maxLen) (hbytes : (n + m) * bytes ≤ 140737488355328)
    (hK : ∀ v' w w', KnownV X u ow bl w → Kn X w' → Stp [] w w' → Stp ow u w' → w'.ownsRow w.heap.size e size v' (n + m) (xs ++ ys) → KW v' w') :
    AskO X u ow bl true (appOp a b t) ty l KW := by
  subst hP
  obtain ⟨ie, hi, rfl, rfl, hz⟩ := hT.info
  have ht := hT.sl
  have hsmall : n + m ≤ 9223372036854775807 := by simp only [maxLen] at h63; omega
  have hlen : (xs ++ ys).length = (n + m) * ie.size := by rw [List.length_append, hxl, hl, Nat.add_mul]
  have key : ∀ w, KnownV X u ow bl w → ∃ v' w', (execOp (argsFn l) ⟨none, appOp a b t, ty, "", #[], none⟩).run X.P w = .ok (.value v') w' ∧
      w'.ownsRow w.heap.size e ie.size v' (n + m) (xs ++ ys) ∧ w.grownBy w' none := fun w hw => by
    rcases hx w hw with ⟨_, h0, _⟩ | ⟨b1, o1, c1, hv1, _, hc1⟩
    · omega
    rcases hold w hw with ⟨hv, _⟩ | ⟨b0, o0, c0, hv0, _, hc0⟩
    · cases hv
    cases hv0
    have hr := run_append_grow (P := X.P) w t ty e ie z ht hi hz ⟨g, 0, none⟩ n cap xs hxl (fun j v hj => by rw [add_none]; exact hc0 j v hj) ⟨b1, o1, none⟩ m c1 ys hl (fun j v hj => by rw [add_none]; exact hc1 j v hj) hm (by omega) (growslice_fits (by omega) hbytes)
    refine ⟨_, w.drew.alloc (.cells (xs.toArray ++ ys.toArray ++ Builtin.zeroCells z.cells (grownCap w (n + m) cap e - (n + m))) e), ?_, ⟨hlen, .inr ⟨w.heap.size, _, _, rfl, Nat.le_refl _, heap_alloc_new w.drew _, grownCap_ge w (n + m) cap e, grownCap_le_maxLen w (n + m) cap e h63, ?_, ?_⟩⟩, ⟨rfl, rfl, rfl, by simp, fun k hk _ => heap_alloc_old w.drew _ hk⟩⟩
    · simp only [appOp, execOp, resolve, invoke, builtin, Sem.run_bind, Sem.run_pure, Result.andThen_ok, List.map_toArray, List.map_cons, List.map_nil, e1, e2, hv1, hr]
    · have hge := grownCap_ge w (n + m) cap e
      simp only [Array.size_append, List.size_toArray, size_zeroCells, hzs, hxl, hl, ← Nat.add_mul]
      congr 1
      omega
    · simp only [Array.toList_append, List.append_assoc]
      rw [← List.append_assoc, ← hlen]
      exact List.take_left
  refine askE_intro (fun w hw => ?_) fun v' w' ⟨w, hw, hr⟩ => ?_
  · obtain ⟨v', w', hr, h2, h3⟩ := key w hw
    exact ⟨v', w', hr, h3.os, h3.tape, h3.output, h3.size, fun g hg hm => h3.block g hg fun hh => by cases hh⟩
  · obtain ⟨v1, w1, hr1, h2, h3⟩ := key w hw
    rw [hr1] at hr
    cases hr
    have hs : Stp [] w w' := ⟨h3.size, fun g hg hn => h3.block g hg fun hh => by cases hh⟩
    refine hK v' w w' hw ⟨fun _ _ _ => rfl, Nat.le_refl _, fun g hg => ?_, Nat.le_trans hw.sz0 h3.size, h3.os.trans hw.os, h3.tape.trans hw.tape, h3.output.trans hw.output, fun _ h => by cases h⟩ hs (by simpa using hw.stp.trans hs) h2
    rcases Nat.lt_or_ge g w.heap.size with hlt | hge
    · rw [h3.block g hlt fun hh => by cases hh]; exact hw.keep g hg
    · exact absurd ((hX g).2 (Nat.le_trans hw.sz0 hge)) hg
end
#print axioms a_appGrow
end Go.Vc
