/-
  What the row of GensLines adds: the listed tables; bytes that come in.
-/
import Derived.Test.YtoakfcihcmmihaaDoorDLn6
import Derived.Test.YtoakfcihcmmihaaDoorRBase
namespace Go.Proofs.YtoakfcihcmmihaaDoor
open Go.ChangeShapes Go.WideShapes Go.ChangeAt Go.WideMaps Go.WideElems Go.RowKit Go.Vc

def laid5 : List (String × DataW Unit) := [("veil/veilref03.round", Rows.laid_veil_veilref03_round), ("veil/veilref03.first", Rows.laid_veil_veilref03_first), ("veil/hash.rounds", Rows.laid_veil_hash_rounds), ("veil/hash.start", Rows.laid_veil_hash_start), ("veil/scalar.table", Rows.laid_veil_scalar_table)]
theorem door_met5 (os : Os) (args : Array Value) : laidMet Tryd.prog laid5 ((World.doorLaid Tryd.prog 400 os).forCall (fun _ _ => 0) ⟨#[], args, []⟩).memory := laidMet_of_run' 8 (by kernel_rfl) (by kernel_rfl)
theorem tab_of {W : World} {g : Nat} {l : List Nat} (h0 : 0 < l.length) (h : ∀ (i : Nat) (v : Value), (l.map U)[i]? = some v → W.cell? ⟨g, i, none⟩ = some v) : Tab W g l :=
  have at_ : ∀ i, i < l.length → W.cell? ⟨g, i, none⟩ = some (U (l.getD i 0)) := fun i hi => h i _ (by rw [List.getElem?_map, List.getD_eq_getElem?_getD, List.getElem?_eq_getElem hi]; rfl)
  ⟨World.block_lt_of_cell? W _ (at_ 0 h0), at_⟩
theorem of_laid5 {W : World} (h : laidMetH Tryd.prog laid5 W) : GH W := by
  refine ⟨?_, ?_, ?_, ?_, ?_⟩
  · have hc := laid_cells h (by kernel_rfl) "veil/scalar.table" Rows.laid_veil_scalar_table (by simp [laid5]) 0 _ (by kernel_rfl) (show (Tryd.prog.globals[0]?).map (·.type) = some 130 by kernel_rfl) (by kernel_rfl)
    have e : flatD (Rows.laid_veil_scalar_table (H := Unit)) = tabArr.toList := by kernel_rfl
    rw [e] at hc
    have hc' : ∀ (i : Nat) (v : Value), tabArr[i]? = some v → W.cell? ⟨0, i, none⟩ = some v := fun i v h => hc i v (by rw [Array.getElem?_toList]; exact h)
    exact ⟨World.block_lt_of_cell? W _ (hc' 0 _ rfl), hc'⟩
  · have hc := laid_cells h (by kernel_rfl) "veil/hash.rounds" Rows.laid_veil_hash_rounds (by simp [laid5]) 7 _ (by kernel_rfl) (show (Tryd.prog.globals[7]?).map (·.type) = some 216 by kernel_rfl) (by kernel_rfl)
    have e : flatD (Rows.laid_veil_hash_rounds (H := Unit)) = Ks.map U := by kernel_rfl
    rw [e] at hc
    exact tab_of (by decide) hc
  · have hc := laid_cells h (by kernel_rfl) "veil/hash.start" Rows.laid_veil_hash_start (by simp [laid5]) 4 _ (by kernel_rfl) (show (Tryd.prog.globals[4]?).map (·.type) = some 174 by kernel_rfl) (by kernel_rfl)
    have e : flatD (Rows.laid_veil_hash_start (H := Unit)) = IV.map U := by kernel_rfl
    rw [e] at hc
    exact tab_of (by decide) hc
  · have hc := laid_cells h (by kernel_rfl) "veil/veilref03.round" Rows.laid_veil_veilref03_round (by simp [laid5]) 6 _ (by kernel_rfl) (show (Tryd.prog.globals[6]?).map (·.type) = some 216 by kernel_rfl) (by kernel_rfl)
    have e : flatD (Rows.laid_veil_veilref03_round (H := Unit)) = Ks.map U := by kernel_rfl
    rw [e] at hc
    exact tab_of (by decide) hc
  · have hc := laid_cells h (by kernel_rfl) "veil/veilref03.first" Rows.laid_veil_veilref03_first (by simp [laid5]) 3 _ (by kernel_rfl) (show (Tryd.prog.globals[3]?).map (·.type) = some 174 by kernel_rfl) (by kernel_rfl)
    have e : flatD (Rows.laid_veil_veilref03_first (H := Unit)) = IV.map U := by kernel_rfl
    rw [e] at hc
    exact tab_of (by decide) hc

/-! ### bytes that come in -/
theorem cells_u8 : Tryd.prog.cellsOf 5 = 1 := by kernel_rfl
section
variable {H : Type} {enc : TypeId × Value → H} {W : World} {base : Nat} {spare : Nat → Bool} {held : Bool} {r : Reach} {b0 : Nat} {v : Value} {d : DataW H} {p : List MemPlace}
set_option maxRecDepth 100000 in
theorem elem_B {fuel : Nat} {cs : List Value} {x : DataW H × List MemPlace} (h : DataW.trod enc Tryd.prog W base spare held fuel 5 cs = some x) : ∃ a, cs = encC a ∧ okBy a := by
  obtain ⟨m, h1, _, h3⟩ := DataW.trod_int Tryd.underlying5 h
  simp only [Lit.wf, Bool.and_eq_true, decide_eq_true_eq] at h3
  have l0 : (0 : Int) ≤ m := h3.1
  have l1 : m ≤ 255 := h3.2
  refine ⟨m.toNat, ?_, ?_⟩
  · rw [h1]
    unfold encC B
    rw [Int.toNat_of_nonneg l0]
  · unfold okBy; omega
set_option maxRecDepth 100000 in
theorem in_BYv (hv : Value.okWide Tryd.prog W r b0 112 v) (h : DataW.Trod enc Tryd.prog W base spare held 112 v d p) : ∃ l : List Nat, cBs.rd W v l ∧ l.length ≤ Rows.uptoBulk d := by
  obtain ⟨e, hs⟩ := cells_slice Tryd.underlying112 hv
  obtain ⟨fuel, h⟩ := h
  rw [e] at h
  obtain ⟨v', l, ev, hl, hlen⟩ := trod_Ls (encA := encC) (ok := okBy) Tryd.underlying112 cells_u8 encC_len (fun _ _ _ h => elem_B h) (fun a l c e => hs a l c (by simpa using e)) h
  obtain rfl : v = v' := by simpa using ev
  have := bulk_list d
  dsimp only at hlen
  exact ⟨l, hl, by omega⟩
end
end Go.Proofs.YtoakfcihcmmihaaDoor
