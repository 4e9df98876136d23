/-
  The listed tables among others; thirty-two bytes that come in.
-/
import Derived.Test.YtpfidanjeacihaaGreatDoorDSha9
import Derived.Test.YtpfidanjeacihaaGreatDoorRBase
namespace Go.Proofs.YtpfidanjeacihaaGreatDoor
open Go.ChangeShapes Go.WideShapes Go.ChangeAt Go.WideMaps Go.WideElems Go.RowKit Go.Vc

theorem tab_ofH {W : World} {g : Nat} {l : List Nat} (h0 : 0 < l.length) (h : ∀ (i : Nat) (v : Value), (l.map U)[i]? = some v → W.cell? ⟨g, i, none⟩ = some v) : Tab W g l :=
  have at_ : ∀ i, i < l.length → W.cell? ⟨g, i, none⟩ = some (U (l.getD i 0)) := fun i hi => h i _ (by rw [List.getElem?_map, List.getD_eq_getElem?_getD, List.getElem?_eq_getElem hi]; rfl)
  ⟨World.block_lt_of_cell? W _ (at_ 0 h0), at_⟩
theorem of_laidT {W : World} {L : List (String × DataW Unit)} (h : laidMetH Tryz.prog L W) (hp : (L.all fun x => x.2.handleName?.isNone) = true) (m1 : ("veil/scalar.table", Rows.laid_veil_scalar_table) ∈ L) : GT W := by
  have hc := laid_cells h hp "veil/scalar.table" Rows.laid_veil_scalar_table m1 0 _ (by kernel_rfl) (show (Tryz.prog.globals[0]?).map (·.type) = some 153 by kernel_rfl) (by kernel_rfl)
  have e : flatD (Rows.laid_veil_scalar_table (H := Unit)) = tabArr.toList := by kernel_rfl
  rw [e] at hc
  have hc' : ∀ (i : Nat) (v : Value), tabArr[i]? = some v → W.cell? ⟨0, i, none⟩ = some v := fun i v h => hc i v (by rw [Array.getElem?_toList]; exact h)
  exact ⟨World.block_lt_of_cell? W _ (hc' 0 _ rfl), hc'⟩
theorem of_laidH {W : World} {L : List (String × DataW Unit)} (h : laidMetH Tryz.prog L W) (hp : (L.all fun x => x.2.handleName?.isNone) = true) (m1 : ("veil/scalar.table", Rows.laid_veil_scalar_table) ∈ L)
    (m2 : ("veil/hash.rounds", Rows.laid_veil_hash_rounds) ∈ L) (m3 : ("veil/hash.start", Rows.laid_veil_hash_start) ∈ L) (m4 : ("veil/veilref03.round", Rows.laid_veil_veilref03_round) ∈ L) (m5 : ("veil/veilref03.first", Rows.laid_veil_veilref03_first) ∈ L) : GH W := by
  refine ⟨of_laidT h hp m1, ?_, ?_, ?_, ?_⟩
  · have hc := laid_cells h hp "veil/hash.rounds" Rows.laid_veil_hash_rounds m2 6 _ (by kernel_rfl) (show (Tryz.prog.globals[6]?).map (·.type) = some 211 by kernel_rfl) (by kernel_rfl)
    have e : flatD (Rows.laid_veil_hash_rounds (H := Unit)) = Ks.map U := by kernel_rfl
    rw [e] at hc
    exact tab_ofH (by decide) hc
  · have hc := laid_cells h hp "veil/hash.start" Rows.laid_veil_hash_start m3 2 _ (by kernel_rfl) (show (Tryz.prog.globals[2]?).map (·.type) = some 165 by kernel_rfl) (by kernel_rfl)
    have e : flatD (Rows.laid_veil_hash_start (H := Unit)) = IV.map U := by kernel_rfl
    rw [e] at hc
    exact tab_ofH (by decide) hc
  · have hc := laid_cells h hp "veil/veilref03.round" Rows.laid_veil_veilref03_round m4 7 _ (by kernel_rfl) (show (Tryz.prog.globals[7]?).map (·.type) = some 211 by kernel_rfl) (by kernel_rfl)
    have e : flatD (Rows.laid_veil_veilref03_round (H := Unit)) = Ks.map U := by kernel_rfl
    rw [e] at hc
    exact tab_ofH (by decide) hc
  · have hc := laid_cells h hp "veil/veilref03.first" Rows.laid_veil_veilref03_first m5 4 _ (by kernel_rfl) (show (Tryz.prog.globals[4]?).map (·.type) = some 165 by kernel_rfl) (by kernel_rfl)
    have e : flatD (Rows.laid_veil_veilref03_first (H := Unit)) = IV.map U := by kernel_rfl
    rw [e] at hc
    exact tab_ofH (by decide) hc

/-! ### thirty-two bytes that come in -/
theorem trod_B32 {H : Type} {enc : TypeId × Value → H} {P : Program} {w : World} {base : Nat} {spare : Nat → Bool} {held : Bool} {fuel t e : Nat} {cs : List Value} {x : DataW H × List MemPlace} (ht : P.underlying t = some (.array 32 e)) (he : P.underlying e = some (.int .u8)) (hc : P.cellsOf e = 1) (hct : P.cellsOf t = 32)
    (h : DataW.trod enc P w base spare held fuel t cs = some x) : cs.length = 32 ∧ cs.all (·.oneCell') = true := by
  obtain ⟨xs, f, _, hx, hl, hn, hel⟩ := DataW.trod_array ht h
  rw [hct] at hl
  rw [hc] at hel
  refine ⟨hl, List.all_eq_true.2 fun c hc => ?_⟩
  obtain ⟨i, hi⟩ := List.getElem?_of_mem hc
  have hlt : i < 32 := by rw [← hl]; exact (List.getElem?_eq_some_iff.1 hi).1
  have h1 := hel i hlt
  have hxi : xs[i]? = some xs[i] := List.getElem?_eq_getElem (by omega)
  rw [hxi] at h1
  obtain ⟨k, e1, _, hw⟩ := DataW.trod_int he h1
  have hci : cs[i]? = some (.int .u8 k) := by
    have h2 := congrArg (fun l => l[0]?) e1
    simpa using h2
  rw [hi] at hci
  cases hci
  rfl
set_option maxRecDepth 100000 in
theorem in_B32 {H : Type} {enc : TypeId × Value → H} {W : World} {base : Nat} {spare : Nat → Bool} {held : Bool} {r : Reach} {b0 : Nat} {v : Value} {d : DataW H} {p : List MemPlace}
    (hv : Value.okWide Tryz.prog W r b0 27 v) (h : DataW.Trod enc Tryz.prog W base spare held 27 v d p) : ∃ cs : List Value, v = .agg cs.toArray ∧ cs.length = 32 ∧ cs.all (·.oneCell') = true := by
  unfold Value.okWide at hv
  rw [Tryz.underlying27] at hv
  obtain ⟨cs, rfl, _, _⟩ := hv
  obtain ⟨fuel, hf⟩ := h
  obtain ⟨h1, h2⟩ := trod_B32 Tryz.underlying27 Tryz.underlying5 (by kernel_rfl) (by kernel_rfl) hf
  exact ⟨cs.toList, by simp, by simpa [Value.cells] using h1, by simpa [Value.cells] using h2⟩
end Go.Proofs.YtpfidanjeacihaaGreatDoor
