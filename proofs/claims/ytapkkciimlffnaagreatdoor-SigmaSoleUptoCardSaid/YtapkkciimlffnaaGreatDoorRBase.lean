/-
  What the rows of this seat share: the listed table, the reading's bulk, the frame.
-/
import Derived.Test.YtapkkciimlffnaaGreatDoorDSig2
import Derived.Test.YtapkkciimlffnaaGreatDoorVcRow
import Derived.Test.YtapkkciimlffnaaGreatDoorCards
import Derived.Test.YtapkkciimlffnaaGreatDoorTie
import Derived.ShutString
import Derived.ChangeOld
import Derived.WalkKit
import Derived.Deep.DeepHandedRow
namespace Go.Proofs.YtapkkciimlffnaaGreatDoor
open Go.ChangeShapes Go.WideShapes Go.ChangeAt Go.WideMaps Go.WideElems Go.RowKit Go.Vc

theorem own : ownKnob Tryz.prog.godebug = none := by kernel_rfl
theorem laidOut : laidOutB Tryz.prog = true := by kernel_rfl

def laidT : List (String × DataW Unit) := [("veil/scalar.table", Rows.laid_veil_scalar_table)]
/-- The program's own heap meets the condition. -/
theorem door_met (os : Os) (args : Array Value) : laidMet Tryz.prog laidT ((World.doorLaid Tryz.prog 400 os).forCall (fun _ _ => 0) ⟨#[], args, []⟩).memory := laidMet_of_run' 8 (by kernel_rfl) (by kernel_rfl)
theorem of_laid {W : World} (h : laidMetH Tryz.prog laidT W) : GT W := by
  have hc := laid_cells h (by kernel_rfl) "veil/scalar.table" Rows.laid_veil_scalar_table (by simp [laidT]) 0 _ (by kernel_rfl) (show (Tryz.prog.globals[0]?).map (·.type) = some 148 by kernel_rfl) (by kernel_rfl)
  have e : flatD (Rows.laid_veil_scalar_table (H := Unit)) = tabArr.toList := by kernel_rfl
  rw [e] at hc
  have hc' : ∀ (i : Nat) (v : Value), tabArr[i]? = some v → W.cell? ⟨0, i, none⟩ = some v := fun i v h => hc i v (by rw [Array.getElem?_toList]; exact h)
  exact ⟨World.block_lt_of_cell? W _ (hc' 0 _ rfl), hc'⟩

theorem cells_u64 : Tryz.prog.cellsOf 23 = 1 := by kernel_rfl
theorem cells_S : Tryz.prog.cellsOf 25 = 4 := by kernel_rfl

/-! ### bulk -/
theorem bulk_one {H : Type} (d : DataW H) : 1 ≤ Rows.uptoBulk d := by
  cases d with
  | lit l => cases l <;> simp [Rows.uptoBulk]
  | _ => simp [Rows.uptoBulk]
theorem bulk_len {H : Type} : ∀ l : List (DataW H), l.length ≤ Rows.uptoBulkAll l
  | [] => by simp
  | d :: r => by
    have h1 := bulk_one d
    have h2 := bulk_len r
    simp only [Rows.uptoBulkAll, List.length_cons]; omega
theorem bulk_mem {H : Type} {d : DataW H} : ∀ {l : List (DataW H)}, d ∈ l → Rows.uptoBulk d ≤ Rows.uptoBulkAll l
  | [], h => by cases h
  | e :: r, h => by
    rcases List.mem_cons.1 h with rfl | h
    · simp only [Rows.uptoBulkAll]; omega
    · have := bulk_mem h; simp only [Rows.uptoBulkAll]; omega
theorem bulk_list {H : Type} (d : DataW H) : lenD d ≤ Rows.uptoBulk d := by
  cases d with
  | slice elems spare => have := bulk_len elems; simp only [lenD, Rows.uptoBulk]; omega
  | _ => simp [lenD]
theorem bulk_part {H : Type} {d : DataW H} {l : List (DataW H)} (h : d ∈ l) : Rows.uptoBulk d ≤ Rows.uptoBulk (.agg l) := by
  have := bulk_mem h; simp only [Rows.uptoBulk]; omega
/-- The bound, kept folded. -/
def mx0 : Nat := 1048576
theorem bulk_bound {H : Type} {l : List (DataW H)} (h : Rows.uptoSmall H l = true) : Rows.uptoBulkAll l ≤ mx0 := by
  have e : Rows.uptoSmall H l = decide (Rows.uptoBulkAll l ≤ mx0) := rfl
  rw [e] at h
  exact of_decide_eq_true h

/-! ### scalars, lists of scalars that come in -/
section
variable {H : Type} {enc : TypeId × Value → H} {W : World} {base : Nat} {spare : Nat → Bool} {held : Bool} {r : Reach} {b0 : Nat} {v : Value} {d : DataW H} {p : List MemPlace}
set_option maxRecDepth 100000 in
theorem in_S (hv : Value.okWide Tryz.prog W r b0 25 v) (h : DataW.Trod enc Tryz.prog W base spare held 25 v d p) : ∃ n, v = S n ∧ okS n := by
  obtain ⟨n, e, hn⟩ := open_S Tryz.underlying25 Tryz.underlying23 cells_u64 cells_S hv h
  exact ⟨n, e, hn⟩
set_option maxRecDepth 100000 in
theorem elem_S {fuel : Nat} {cs : List Value} {x : DataW H × List MemPlace} (h : DataW.trod enc Tryz.prog W base spare held fuel 25 cs = some x) : ∃ a, cs = encS a ∧ okS a := trod_S Tryz.underlying25 Tryz.underlying23 cells_u64 cells_S h
set_option maxRecDepth 100000 in
theorem in_LS {fuel : Nat} {cs : List Value} {x : DataW H × List MemPlace} (hsp : ∀ a l c, cs = [.slice (some a) l c] → a.spot = none) (h : DataW.trod enc Tryz.prog W base spare held fuel 22 cs = some x) : ∃ (v : Value) (l : List Nat), cs = [v] ∧ Ls encS okS W v l ∧ lenD x.1 = l.length :=
  trod_Ls Tryz.underlying22 cells_S encS_len (fun _ _ _ h => elem_S h) hsp h
set_option maxRecDepth 100000 in
/-- A list of scalars that is an argument. -/
theorem cells_slice {e : TypeId} {t : TypeId} (ht : Tryz.prog.underlying t = some (.slice e)) (hv : Value.okWide Tryz.prog W r b0 t v) : v.cells.toList = [v] ∧ ∀ a l c, v = .slice (some a) l c → a.spot = none := by
  have hc : Cell.okWide Tryz.prog W r b0 t v := by
    unfold Value.okWide at hv
    rw [ht] at hv
    exact hv
  refine ⟨?_, spot_of hc ht⟩
  unfold Cell.okWide at hc
  rw [ht] at hc
  unfold Cell.ok at hc
  rw [ht] at hc
  cases v <;> first | rfl | exact hc.elim
set_option maxRecDepth 100000 in
theorem in_LSv (hv : Value.okWide Tryz.prog W r b0 22 v) (h : DataW.Trod enc Tryz.prog W base spare held 22 v d p) : ∃ l : List Nat, cLS.rd W v l ∧ l.length ≤ Rows.uptoBulk d := by
  obtain ⟨e, hs⟩ := cells_slice Tryz.underlying22 hv
  obtain ⟨fuel, h⟩ := h
  rw [e] at h
  obtain ⟨v', l, ev, hl, hlen⟩ := in_LS (fun a l c e => hs a l c (by simpa using e)) h
  obtain rfl : v = v' := by simpa using ev
  have := bulk_list d
  dsimp only at hlen
  exact ⟨l, hl, by omega⟩
end
end Go.Proofs.YtapkkciimlffnaaGreatDoor
