/-
  GensBinds, for every input: the law returns true, and each argument reads behind the call as it read before; the listed variable is tied to the program's text.
-/
import Derived.Test.YtapkkciimlffnaaDoorDGb5
import Derived.Test.YtapkkciimlffnaaDoorRGoes
namespace Go.Proofs.YtapkkciimlffnaaDoor
open Go.ChangeShapes Go.WideShapes Go.ChangeAt Go.WideMaps Go.WideElems Go.RowKit Go.Vc

theorem reads (os : Os) {H : Type} (enc : TypeId × Value → H) : ∃ ds places, DataW.whole enc Tryd.prog ((World.doorLaid Tryd.prog 400 os).forCall (fun _ _ => 0) ⟨#[], #[.int .i64 0, S 0, S 0, S 0, S 0, .slice none 0 0, .slice none 0 0, .slice none 0 0, .slice none 0 0], []⟩).memory Tryd.f4.params.toList Rows.gensBindsSpec.vars false #[Value.int .i64 0, S 0, S 0, S 0, S 0, Value.slice none 0 0, Value.slice none 0 0, Value.slice none 0 0, Value.slice none 0 0].toList 8 = some (ds, [], places) :=
  ⟨[.lit (.int .i64 0), .agg [.lit (.int .u64 0), .lit (.int .u64 0), .lit (.int .u64 0), .lit (.int .u64 0)], .agg [.lit (.int .u64 0), .lit (.int .u64 0), .lit (.int .u64 0), .lit (.int .u64 0)], .agg [.lit (.int .u64 0), .lit (.int .u64 0), .lit (.int .u64 0), .lit (.int .u64 0)], .agg [.lit (.int .u64 0), .lit (.int .u64 0), .lit (.int .u64 0), .lit (.int .u64 0)], .nil, .nil, .nil, .nil], [], by kernel_rfl⟩

set_option maxRecDepth 100000 in
theorem lifted (os : Os) (started : os.Started) (H : Type) (enc : TypeId × Value → H) (F : Stop.Interp) :
    ReturnsInHanded {} Tryd.checked os 4 .any ((OpenSpec.ofChange Rows.gensBindsSpec).preRow enc Tryd.prog Tryd.f4 Rows.gensBindsRow.domain false Rows.gensBindsRow.laid) (((OpenSpec.ofChange Rows.gensBindsSpec).at F).post enc Tryd.prog Tryd.f4 false true false false) := by
  obtain ⟨ds0, places, hx⟩ := reads os enc
  refine returnsInHanded_of_row (C := Tryd.checked) (s := OpenSpec.ofChange Rows.gensBindsSpec) own started (by kernel_rfl) Tryd.func4
    (witness_row_at (enc := enc) (C := Tryd.checked) false (World.doorLaid Tryd.prog 400 os) #[.int .i64 0, S 0, S 0, S 0, S 0, .slice none 0 0, .slice none 0 0, .slice none 0 0, .slice none 0 0] rfl (by kernel_rfl) (by kernel_rfl) (by kernel_rfl)
      (OpenSpec.preRow_of_cond 8 hx (by kernel_rfl) (fun k hk => by cases hk) (by kernel_rfl) (door_met os _))) ?_
  intro W base args ds gs before hval0 hW _ hcond _ hL _ _
  have hval : ∀ (j : Nat) t v, Tryd.f4.params[j]? = some t → args[j]? = some v → Value.okWide Tryd.prog W .any base t v := hval0
  have hW' := hW
  obtain ⟨p, q, hA0, hV, rfl, hfz, hnd⟩ := hW
  have hA : DataW.TrodAll enc Tryd.prog W 0 (fun _ => true) true Tryd.f4.params.toList args.toList ds p := hA0
  rw [Tryd.params4] at hA hval
  have hA1 := hA
  obtain ⟨v0, vs0, d0, ds0, p0, q0, hargs, rfl, rfl, h0, r0⟩ := trodAll_cons hA
  obtain ⟨v1, vs1, d1, ds1, p1, q1, rfl, rfl, rfl, h1, r1⟩ := trodAll_cons r0
  obtain ⟨v2, vs2, d2, ds2, p2, q2, rfl, rfl, rfl, h2, r2⟩ := trodAll_cons r1
  obtain ⟨v3, vs3, d3, ds3, p3, q3, rfl, rfl, rfl, h3, r3⟩ := trodAll_cons r2
  obtain ⟨v4, vs4, d4, ds4, p4, q4, rfl, rfl, rfl, h4, r4⟩ := trodAll_cons r3
  obtain ⟨v5, vs5, d5, ds5, p5, q5, rfl, rfl, rfl, h5, r5⟩ := trodAll_cons r4
  obtain ⟨v6, vs6, d6, ds6, p6, q6, rfl, rfl, rfl, h6, r6⟩ := trodAll_cons r5
  obtain ⟨v7, vs7, d7, ds7, p7, q7, rfl, rfl, rfl, h7, r7⟩ := trodAll_cons r6
  obtain ⟨v8, vs8, d8, ds8, p8, q8, rfl, rfl, rfl, h8, r8⟩ := trodAll_cons r7
  obtain ⟨rfl, rfl, rfl⟩ := trodAll_nil r8
  obtain rfl : args = #[v0, v1, v2, v3, v4, v5, v6, v7, v8] := by cases args; simp_all
  obtain ⟨rfl, rfl⟩ := trodVars_none hV
  obtain ⟨a0, rfl, rfl, rfl, _⟩ := open_int Tryd.underlying3 (hval 0 3 v0 rfl rfl) h0
  obtain ⟨n1, rfl, b1⟩ := in_S (hval 1 34 v1 rfl rfl) h1
  obtain ⟨n2, rfl, b2⟩ := in_S (hval 2 34 v2 rfl rfl) h2
  obtain ⟨n3, rfl, b3⟩ := in_S (hval 3 34 v3 rfl rfl) h3
  obtain ⟨n4, rfl, b4⟩ := in_S (hval 4 34 v4 rfl rfl) h4
  obtain ⟨l5, hr5, hl5⟩ := in_LSv (hval 5 25 v5 rfl rfl) h5
  obtain ⟨l6, hr6, hl6⟩ := in_LSv (hval 6 25 v6 rfl rfl) h6
  obtain ⟨l7, hr7, hl7⟩ := in_LSv (hval 7 25 v7 rfl rfl) h7
  obtain ⟨l8, hr8, hl8⟩ := in_LSv (hval 8 25 v8 rfl rfl) h8
  clear hA0 hval0
  have hrd : (Cods.cons cI (Cods.cons cS (Cods.cons cS (Cods.cons cS (Cods.cons cS (Cods.cons cLS (Cods.cons cLS (Cods.cons cLS (Cods.cons cLS Cods.nil))))))))).rd W [.int .i64 a0, S n1, S n2, S n3, S n4, v5, v6, v7, v8] (a0, n1, n2, n3, n4, l5, l6, l7, l8, ()) := ⟨_, _, rfl, rfl, _, _, rfl, ⟨rfl, b1⟩, _, _, rfl, ⟨rfl, b2⟩, _, _, rfl, ⟨rfl, b3⟩, _, _, rfl, ⟨rfl, b4⟩, _, _, rfl, hr5, _, _, rfl, hr6, _, _, rfl, hr7, _, _, rfl, hr8, rfl⟩
  refine (keepsGB.callsW [.int .i64 a0, S n1, S n2, S n3, S n4, v5, v6, v7, v8] W ⟨(a0, n1, n2, n3, n4, l5, l6, l7, l8, ()), hrd, trivial⟩ (of_laid hL)).mono fun e W' ⟨v, he, hv, bel0⟩ => ?_
  have bel : Below W.heap.size W W' := ⟨bel0.os, bel0.tape, bel0.output, bel0.size, fun b hb => bel0.block b hb id⟩
  have hv := hv.1 _ hrd
  subst hv
  subst he
  exact ⟨_, rfl, _, _, _, [], _, [], hW', trodAll_mk1 (shut_bool Tryd.underlying4 _), trodAll_below laidOut bel (by kernel_rfl) hA1, rfl, bel.frame _, fun h => by cases h⟩

theorem gensBinds_said : Rows.GensBindsSaid :=
  OpenClaim.holds_of_wide_leaving 4 Tryd.f4 rfl rfl rfl rfl rfl rfl rfl ⟨rfl, rfl, rfl, rfl, rfl⟩ rfl rfl rfl rfl rfl (by kernel_rfl) Tryd.func4 (by kernel_rfl)
    (of_decide_eq_true (by kernel_rfl)) (by unfold Func.isWrapper; first | (rw [if_pos (by decide +kernel)]; kernel_rfl) | (rw [if_neg (by decide +kernel)]; exact ⟨rfl, rfl⟩))
    (fun os started H enc _ => by rw [OpenClaim.pre_eq_preRow]; exact leaving_of_handed (lifted os started H enc fun _ _ _ => 0))

theorem plain (f : FuncId) (fn : Func) (hf : Tryd.pinned.checked.prog.funcNamed "veil/veillaw09.GensBinds" = some f) (hfn : Tryd.pinned.checked.prog.funcs[f]? = some fn) :
    true = Tryd.pinned.checked.prog.looks [] ∧ ∀ (j : Nat) t, fn.params[j]? = some t → Tryd.pinned.checked.prog.wantsStandIn t = false := by
  obtain rfl : f = 4 := Option.some.inj ((show Tryd.prog.funcNamed "veil/veillaw09.GensBinds" = some 4 by kernel_rfl).symm.trans hf) |>.symm
  obtain rfl : fn = Tryd.f4 := (Option.some.inj (Tryd.func4.symm.trans hfn)).symm
  refine ⟨by kernel_rfl, fun j t ht => ?_⟩
  rw [Tryd.params4] at ht
  have hm := Array.mem_of_getElem? ht
  have hall : (#[3, 34, 34, 34, 34, 25, 25, 25, 25].all fun u => !Tryd.prog.wantsStandIn u) = true := by kernel_rfl
  exact (show Tryd.prog.wantsStandIn t = false by simpa using Array.all_eq_true_iff_forall_mem.1 hall t hm)

theorem gensBinds_holds : Rows.GensBindsCardSaid :=
  holds_tied_goes_at .later _ _ _ _ gensBinds_said (by kernel_rfl) gensBinds_row_tie rfl ⟨rfl, rfl⟩ (by kernel_rfl) rfl plain (by kernel_rfl)
#print axioms gensBinds_holds
end Go.Proofs.YtapkkciimlffnaaDoor
