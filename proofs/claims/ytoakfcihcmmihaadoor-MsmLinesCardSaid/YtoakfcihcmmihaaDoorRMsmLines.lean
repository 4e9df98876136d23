/-
  MsmLines: for every input the law returns true, and each argument reads behind the call as it read before; the listed variables are tied to the program's text.
-/
import Derived.Test.YtoakfcihcmmihaaDoorDMl2
import Derived.Test.YtoakfcihcmmihaaDoorRBase
namespace Go.Proofs.YtoakfcihcmmihaaDoor
open Go.ChangeShapes Go.WideShapes Go.ChangeAt Go.WideMaps Go.WideElems Go.RowKit Go.Vc

theorem trod_By {H : Type} {enc : TypeId × Value → H} {P : Program} {w : World} {base : Nat} {spare : Nat → Bool} {held : Bool} {fuel t e : Nat} {cs : List Value} {x : DataW H × List MemPlace} (ht : P.underlying t = some (.array 32 e)) (he : P.underlying e = some (.int .u8)) (hc : P.cellsOf e = 1) (hct : P.cellsOf t = 32)
    (h : DataW.trod enc P w base spare held fuel t cs = some x) : ∃ l : List Nat, cs = l.map B ∧ l.length = 32 ∧ ∀ x ∈ l, x < 256 := by
  obtain ⟨xs, f, _, hx, hl, hn, hel⟩ := DataW.trod_array ht h
  rw [hct] at hl
  rw [hc] at hel
  have lim : ∀ i, i < 32 → ∃ a, cs[i]? = some (B a) ∧ a < 256 := fun i hi => by
    have h1 := hel i hi
    have hxi : xs[i]? = some xs[i] := List.getElem?_eq_getElem (by omega)
    rw [hxi] at h1
    obtain ⟨k, e1, _, hw⟩ := DataW.trod_int he h1
    have hci : cs[i]? = some (.int .u8 k) := by
      have h2 := congrArg (fun l => l[0]?) e1
      simpa using h2
    have hb : 0 ≤ k ∧ k ≤ 255 := by simpa [Lit.wf, IntKind.min, IntKind.max, IntKind.signed, IntKind.bits] using hw
    exact ⟨k.toNat, by rw [hci]; unfold B; congr 2; omega, by omega⟩
  obtain ⟨l, hl2, hq⟩ := exists_list (fun i a => cs[i]? = some (B a) ∧ a < 256) 32 lim
  refine ⟨l, ?_, hl2, fun x hx => ?_⟩
  · refine List.ext_getElem? fun i => ?_
    rcases Nat.lt_or_ge i 32 with hi | hi
    · have hli : l[i]? = some l[i] := List.getElem?_eq_getElem (by omega)
      rw [List.getElem?_map, hli, (hq i _ hli).1]; rfl
    · rw [List.getElem?_eq_none (by omega), List.getElem?_eq_none (by simp; omega)]
  · obtain ⟨i, hi⟩ := List.getElem?_of_mem hx
    exact (hq i x hi).2
set_option maxRecDepth 100000 in
theorem in_By {H : Type} {enc : TypeId × Value → H} {W : World} {base : Nat} {spare : Nat → Bool} {held : Bool} {r : Reach} {b0 : Nat} {v : Value} {d : DataW H} {p : List MemPlace}
    (hv : Value.okWide Tryd.prog W r b0 97 v) (h : DataW.Trod enc Tryd.prog W base spare held 97 v d p) : ∃ n, v = BS n ∧ n < W256 := by
  unfold Value.okWide at hv
  rw [Tryd.underlying97] at hv
  obtain ⟨cs, rfl, _, _⟩ := hv
  obtain ⟨fuel, hf⟩ := h
  obtain ⟨l, e, hl, hb⟩ := trod_By Tryd.underlying97 Tryd.underlying5 (by kernel_rfl) (by kernel_rfl) hf
  obtain ⟨h1, h2⟩ := BS_of hl hb
  refine ⟨numB l, ?_, h2⟩
  rw [← h1, ← e]
  rfl

/-- The program's own heap meets the condition. -/
theorem door_met6 (os : Os) (args : Array Value) : laidMet Tryd.prog Rows.msmLinesRow.laid ((World.doorLaid Tryd.prog 400 os).forCall (fun _ _ => 0) ⟨#[], args, []⟩).memory := laidMet_of_run' 8 (by kernel_rfl) (by kernel_rfl)
theorem of_laid6 {W : World} (h : laidMetH Tryd.prog Rows.msmLinesRow.laid W) : GT W := by
  have hc := laid_cells h (by kernel_rfl) "veil/scalar.table" Rows.laid_veil_scalar_table (by simp [Rows.msmLinesRow]) 0 _ (by kernel_rfl) (show (Tryd.prog.globals[0]?).map (·.type) = some 130 by kernel_rfl) (by kernel_rfl)
  have e : flatD (Rows.laid_veil_scalar_table (H := Unit)) = tabArr.toList := by kernel_rfl
  rw [e] at hc
  have hc' : ∀ (i : Nat) (v : Value), tabArr[i]? = some v → W.cell? ⟨0, i, none⟩ = some v := fun i v h => hc i v (by rw [Array.getElem?_toList]; exact h)
  exact ⟨World.block_lt_of_cell? W _ (hc' 0 _ rfl), hc'⟩

theorem reads (os : Os) {H : Type} (enc : TypeId × Value → H) : ∃ ds places, DataW.whole enc Tryd.prog ((World.doorLaid Tryd.prog 400 os).forCall (fun _ _ => 0) ⟨#[], #[S 0, S 0, S 0, BS 0], []⟩).memory Tryd.f7.params.toList Rows.msmLinesSpec.vars false #[S 0, S 0, S 0, BS 0].toList 8 = some (ds, [], places) :=
  ⟨[.agg [.lit (.int .u64 0), .lit (.int .u64 0), .lit (.int .u64 0), .lit (.int .u64 0)], .agg [.lit (.int .u64 0), .lit (.int .u64 0), .lit (.int .u64 0), .lit (.int .u64 0)], .agg [.lit (.int .u64 0), .lit (.int .u64 0), .lit (.int .u64 0), .lit (.int .u64 0)], .agg [.lit (.int .u8 0), .lit (.int .u8 0), .lit (.int .u8 0), .lit (.int .u8 0), .lit (.int .u8 0), .lit (.int .u8 0), .lit (.int .u8 0), .lit (.int .u8 0), .lit (.int .u8 0), .lit (.int .u8 0), .lit (.int .u8 0), .lit (.int .u8 0), .lit (.int .u8 0), .lit (.int .u8 0), .lit (.int .u8 0), .lit (.int .u8 0), .lit (.int .u8 0), .lit (.int .u8 0), .lit (.int .u8 0), .lit (.int .u8 0), .lit (.int .u8 0), .lit (.int .u8 0), .lit (.int .u8 0), .lit (.int .u8 0), .lit (.int .u8 0), .lit (.int .u8 0), .lit (.int .u8 0), .lit (.int .u8 0), .lit (.int .u8 0), .lit (.int .u8 0), .lit (.int .u8 0), .lit (.int .u8 0)]], [], by kernel_rfl⟩

set_option maxRecDepth 100000 in
theorem lifted (os : Os) (started : os.Started) (H : Type) (enc : TypeId × Value → H) (F : Stop.Interp) :
    ReturnsInHanded {} Tryd.checked os 7 .any ((OpenSpec.ofChange Rows.msmLinesSpec).preRow enc Tryd.prog Tryd.f7 Rows.msmLinesRow.domain false Rows.msmLinesRow.laid) (((OpenSpec.ofChange Rows.msmLinesSpec).at F).post enc Tryd.prog Tryd.f7 false true false false) := by
  obtain ⟨ds0, places, hx⟩ := reads os enc
  refine returnsInHanded_of_row (C := Tryd.checked) (s := OpenSpec.ofChange Rows.msmLinesSpec) own started (by kernel_rfl) Tryd.func7
    (witness_row_at (enc := enc) (C := Tryd.checked) false (World.doorLaid Tryd.prog 400 os) #[S 0, S 0, S 0, BS 0] rfl (by kernel_rfl) (by kernel_rfl) (by kernel_rfl)
      (OpenSpec.preRow_of_cond 8 hx (by kernel_rfl) (fun k hk => by cases hk) (by kernel_rfl) (door_met6 os _))) ?_
  intro W base args ds gs before hval0 hW _ _ _ hL _ _
  have hval : ∀ (j : Nat) t v, Tryd.f7.params[j]? = some t → args[j]? = some v → Value.okWide Tryd.prog W .any base t v := hval0
  have hW' := hW
  obtain ⟨p, q, hA0, hV, rfl, hfz, hnd⟩ := hW
  have hA : DataW.TrodAll enc Tryd.prog W 0 (fun _ => true) true Tryd.f7.params.toList args.toList ds p := hA0
  rw [Tryd.params7] at hA hval
  have hA1 := hA
  obtain ⟨v0, vs0, d0, ds0, p0, q0, hargs, rfl, rfl, h0, r0⟩ := trodAll_cons hA
  obtain ⟨v1, vs1, d1, ds1, p1, q1, rfl, rfl, rfl, h1, r1⟩ := trodAll_cons r0
  obtain ⟨v2, vs2, d2, ds2, p2, q2, rfl, rfl, rfl, h2, r2⟩ := trodAll_cons r1
  obtain ⟨v3, vs3, d3, ds3, p3, q3, rfl, rfl, rfl, h3, r3⟩ := trodAll_cons r2
  obtain ⟨rfl, rfl, rfl⟩ := trodAll_nil r3
  obtain rfl : args = #[v0, v1, v2, v3] := by cases args; simp_all
  obtain ⟨rfl, rfl⟩ := trodVars_none hV
  obtain ⟨n0, rfl, b0⟩ := in_S (hval 0 24 v0 rfl rfl) h0
  obtain ⟨n1, rfl, b1⟩ := in_S (hval 1 24 v1 rfl rfl) h1
  obtain ⟨n2, rfl, b2⟩ := in_S (hval 2 24 v2 rfl rfl) h2
  obtain ⟨n3, rfl, b3⟩ := in_By (hval 3 97 v3 rfl rfl) h3
  clear hA0 hval0
  refine (keepsMsmLines.calls [S n0, S n1, S n2, BS n3] W ⟨(n0, n1, n2, n3), ⟨b0, b1, b2, b3⟩, rfl⟩ (of_laid6 hL)).mono fun e W' ⟨v, he, hv, bel⟩ => ?_
  have hv := hv (n0, n1, n2, n3) ⟨b0, b1, b2, b3⟩ rfl
  subst hv
  subst he
  exact ⟨_, rfl, _, _, _, [], _, [], hW', trodAll_mk1 (shut_bool Tryd.underlying4 _), trodAll_below laidOut bel (by kernel_rfl) hA1, rfl, bel.frame _, fun h => by cases h⟩

theorem msmLines_said : Rows.MsmLinesSaid :=
  OpenClaim.holds_of_cond 7 Tryd.f7 rfl rfl rfl rfl rfl rfl rfl ⟨rfl, rfl, rfl, rfl, rfl⟩ rfl rfl rfl rfl rfl (by kernel_rfl) Tryd.func7 (by kernel_rfl)
    (of_decide_eq_true (by kernel_rfl)) (by unfold Func.isWrapper; first | (rw [if_pos (by decide +kernel)]; kernel_rfl) | (rw [if_neg (by decide +kernel)]; exact ⟨rfl, rfl⟩))
    (fun os started H enc _ F => by rw [OpenClaim.pre_eq_preRow]; exact lifted os started H enc F)

theorem plain (f : FuncId) (fn : Func) (hf : Tryd.pinned.checked.prog.funcNamed "veil/veillaw07.MsmLines" = some f) (hfn : Tryd.pinned.checked.prog.funcs[f]? = some fn) :
    false = Tryd.pinned.checked.prog.looks [] ∧ ∀ (j : Nat) t, fn.params[j]? = some t → Tryd.pinned.checked.prog.wantsStandIn t = false := by
  obtain rfl : f = 7 := Option.some.inj ((show Tryd.prog.funcNamed "veil/veillaw07.MsmLines" = some 7 by kernel_rfl).symm.trans hf) |>.symm
  obtain rfl : fn = Tryd.f7 := (Option.some.inj (Tryd.func7.symm.trans hfn)).symm
  refine ⟨by kernel_rfl, fun j t ht => ?_⟩
  rw [Tryd.params7] at ht
  have hm := Array.mem_of_getElem? ht
  have hall : (#[24, 24, 24, 97].all fun u => !Tryd.prog.wantsStandIn u) = true := by kernel_rfl
  exact (show Tryd.prog.wantsStandIn t = false by simpa using Array.all_eq_true_iff_forall_mem.1 hall t hm)

theorem msmLines_holds : Rows.MsmLinesCardSaid :=
  Claim7.holds_tied_plain_at .later [] _ _ _ _ msmLines_said (fun _ h => by cases h) (by kernel_rfl) (fun _ h => by cases h) msmLines_row_tie rfl ⟨rfl, rfl⟩ (by kernel_rfl) rfl plain (by kernel_rfl)
#print axioms msmLines_holds
end Go.Proofs.YtoakfcihcmmihaaDoor
