/-
  Rules for maps with plain keys.
-/
import Derived.Test.YtoakfcihcmmihaaDoorVcEasy
import Derived.MapKept
import Derived.Carry
namespace Go.Vc
open Go Go.RowKit

section
variable {X : Ctx} {P : Program} {u : World} {ow : List Nat} {bl : List KB} {KW : Value → World → Prop}
theorem kn_of {X : Ctx} {u w w' : World} {ow : List Nat} {bl : List KB} {ex : List Nat} (hX : Std X) (hw : KnownV X u ow bl w) (hs : Stp ex w w') (he : ∀ b ∈ ex, X.w0.heap.size ≤ b) (h1 : w'.os = w.os) (h2 : w'.tape = w.tape) (h3 : w'.output = w.output) : Kn X w' := by
  refine ⟨fun _ _ _ => rfl, Nat.le_refl _, fun b hb => ?_, Nat.le_trans hw.sz0 hs.size, h1.trans hw.os, h2.trans hw.tape, h3.trans hw.output, fun _ h => by cases h⟩
  have hlt : b < X.w0.heap.size := by
    rcases Nat.lt_or_ge b X.w0.heap.size with h | h
    · exact h
    · exact absurd ((hX b).2 h) hb
  rw [hs.past b (Nat.lt_of_lt_of_le hlt hw.sz0) fun h => by have := he b h; omega]
  exact hw.keep b hb

theorem a_makeMap {t ty : Nat} {l : List (Nat × Value)} (hX : Std X)
    (hK : ∀ r w w', KnownV X u ow bl w → Kn X w' → Stp [] w w' → Stp ow u w' → w.heap.size = r → w'.heap[r]? = some (.map #[] 0) → KW (.map (some r)) w') :
    AskO X u ow bl false (.makeMap t none) ty l KW := by
  refine askE_run rfl (fun w => .map (some w.heap.size)) (fun w => w.alloc (.map #[] 0)) (fun w _ => ⟨by
    simp only [execOp, Option.map_none, Sem.run_bind, run_makeMap, Result.andThen_ok]; rfl, keeps_alloc _ _ _ _⟩) fun w hw => ?_
  have hs : Stp [] w (w.alloc (.map #[] 0)) := ⟨by simp, fun b hb _ => heap_alloc_old w _ hb⟩
  refine hK _ w _ hw (kn_of hX hw hs (fun _ h => by cases h) rfl rfl rfl) hs (by simpa using hw.stp.trans hs) rfl ?_
  exact heap_alloc_new w _

theorem a_insert {t kt et ty r c : Nat} {d : TypeDesc} {m k v : Operand} {l : List (Nat × Value)} {es : Array MapEntry} {key val : Value} (hX : Std X) (hP : X.P = P) (hm : P.underlying t = some (.map kt et)) (hd : P.underlying kt = some d)
    (e1 : argsFn l m = .map (some r)) (e2 : argsFn l k = key) (e3 : argsFn l v = val) (hrow : u.heap[r]? = some (.map es c)) (how : r ∉ ow) (hr0 : X.w0.heap.size ≤ r) (hbl : r ∉ bl.map (·.b))
    (hk : MapKept.IsKey d key) (hf : Instr.findNow d key es.toList 0 = some none)
    (hK : ∀ q w w', KnownV X u ow bl w → Kn X w' → Stp [r] w w' → Stp (ow ++ [r]) u w' → w'.heap[r]? = some (.map (es.push ⟨key, val, c⟩) (c + 1)) → KW q w') :
    AskO X u ow bl true (.insert t m k v) ty l KW := by
  subst hP
  have hlt : r < u.heap.size := (Array.getElem?_eq_some_iff.1 hrow).1
  have row : ∀ w, KnownV X u ow bl w → w.heap[r]? = some (.map es c) := fun w hw => by rw [hw.past r hlt how]; exact hrow
  have run : ∀ w, KnownV X u ow bl w → (execOp (argsFn l) ⟨none, .insert t m k v, ty, "", #[], none⟩).run X.P w = .ok .skip { w with heap := w.heap.setIfInBounds r (.map (es.push ⟨key, val, c⟩) (c + 1)) } := fun w hw => by
    have hb := row w hw
    simp only [execOp, e1, e2, e3]
    simp [Instr.mapUpdate, run_underlying hm, MapKept.run_getObj_map hb, MapKept.run_checkKey hd hk, MapKept.run_findKey hd hf, MapKept.run_setObj_map _ hb, Result.andThen]
  have stp : ∀ w, KnownV X u ow bl w → Stp [r] w { w with heap := w.heap.setIfInBounds r (.map (es.push ⟨key, val, c⟩) (c + 1)) } := fun w hw => ⟨by simp, fun b _ hn => (MapKept.heap_set (row w hw)).2 b (by simpa using hn)⟩
  refine askE_mute rfl (fun w => { w with heap := w.heap.setIfInBounds r (.map (es.push ⟨key, val, c⟩) (c + 1)) }) (fun w hw => ⟨run w hw, rfl, rfl, rfl, (stp w hw).size, fun b hb hmd => (stp w hw).past b hb fun h => ?_⟩) fun q w hw => ?_
  · simp only [List.mem_singleton] at h
    subst h
    rcases hmd rfl with h | h
    · exact h ((hX b).2 hr0)
    · exact hbl h
  · exact hK q w _ hw (kn_of hX hw (stp w hw) (all1 hr0) rfl rfl rfl) (stp w hw) (hw.stp.trans (stp w hw)) (MapKept.heap_set (row w hw)).1

theorem a_lookup {t kt et ty r c i : Nat} {d : TypeDesc} {m k : Operand} {l : List (Nat × Value)} {es : Array MapEntry} {key val : Value} (hP : X.P = P) (hm : P.underlying t = some (.map kt et)) (hd : P.underlying kt = some d)
    (e1 : argsFn l m = .map (some r)) (e2 : argsFn l k = key) (hrow : u.heap[r]? = some (.map es c)) (how : r ∉ ow)
    (hk : MapKept.IsKey d key) (hf : Instr.findNow d key es.toList 0 = some (some (i, val)))
    (hK : ∀ w, KnownV X u ow bl w → KW val w) :
    AskO X u ow bl false (.lookup t m k false) ty l KW := by
  subst hP
  have hlt : r < u.heap.size := (Array.getElem?_eq_some_iff.1 hrow).1
  refine askE_run rfl (fun _ => val) (fun w => w) (fun w hw => ⟨?_, rfl, rfl, rfl, Nat.le_refl _, fun _ _ _ => rfl⟩) fun w hw => hK w hw
  have hb : w.heap[r]? = some (.map es c) := by rw [hw.past r hlt how]; exact hrow
  simp only [execOp, e1, e2]
  simp [Instr.lookup, run_underlying hm, MapKept.run_getObj_map hb, MapKept.run_checkKey hd hk, MapKept.run_findKey hd hf, Result.andThen]
end
end Go.Vc
